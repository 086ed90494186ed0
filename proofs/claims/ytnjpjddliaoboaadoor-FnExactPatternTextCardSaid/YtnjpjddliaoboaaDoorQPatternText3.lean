/- What is proved: fnExactPatternText_card, without further conditions; this text holds part 4 of 4 of its proof. -/
import Derived.ProofKit
import Derived.LaidMore
import Derived.OpenShut
import Derived.ShutString
import Derived.ChangeOld
import Derived.Below
import Derived.SizedLaws
import Derived.Stop.Joined
import Derived.Lib.LaidTab
import Derived.Deep.Slices
import Derived.Test.YtnjpjddliaoboaaDoorTie
import Derived.Test.YtnjpjddliaoboaaDoorCards
import Derived.WalkKit
import Derived.Test.YtnjpjddliaoboaaDoorQPatternText2
section
namespace Go.Proofs.YtnjpjddliaoboaaDoorY
open Go.RowKit Go.ChangeShapes Go.Proofs.YtnjpjddliaoboaaDoorW.PrintWords
def Opens (P : Program) (w : World) (t : TypeId) {α : Type} (d : Kd α) (wf : α → Prop) : Prop :=
  P.cellsOf t = d.sz ∧ ∀ (H : Type) (enc : TypeId × Value → H) (base : Nat) (sp : Nat → Bool) (held : Bool) (fuel : Nat) (cs : List Value) (x : DataW H × List MemPlace),
    DataW.trod enc P w base sp held fuel t cs = some x → ∃ a, d.K w a cs ∧ wf a
section
variable {P : Program} {w : World}
theorem Opens.int {t : TypeId} {k : IntKind} (ht : P.underlying t = some (.int k)) (hc : P.cellsOf t = 1) : Opens P w t (Kd.int k) (fun n => (Lit.int k n).wf = true) :=
  ⟨hc, fun H enc base sp held fuel cs x h => by
    obtain ⟨n, rfl, _, hw⟩ := DataW.trod_int ht h
    exact ⟨n, rfl, hw⟩⟩
theorem Opens.bool {t : TypeId} (ht : P.underlying t = some .bool) (hc : P.cellsOf t = 1) : Opens P w t Kd.bool (fun _ => True) :=
  ⟨hc, fun H enc base sp held fuel cs x h => by
    obtain ⟨b, rfl, _⟩ := DataW.trod_bool ht h
    exact ⟨b, rfl, trivial⟩⟩
theorem Opens.string {t : TypeId} (ht : P.underlying t = some .string) (hc : P.cellsOf t = 1) : Opens P w t Kd.string (fun s => s.size ≤ 9223372036854775807) :=
  ⟨hc, fun H enc base sp held fuel cs x h => by
    obtain ⟨s, rfl, _, hs⟩ := DataW.trod_string ht h
    exact ⟨s, rfl, hs⟩⟩
theorem choose_list {α : Type} {p : Nat → α → Prop} : ∀ (n : Nat), (∀ i, i < n → ∃ a, p i a) → ∃ l : List α, l.length = n ∧ ∀ i a, l[i]? = some a → p i a
  | 0, _ => ⟨[], rfl, fun i a h => by simp at h⟩
  | n + 1, h => by
    obtain ⟨l, hl, hp⟩ := choose_list n (fun i hi => h i (by omega))
    obtain ⟨a, ha⟩ := h n (by omega)
    refine ⟨l ++ [a], by simp [hl], fun i b hb => ?_⟩
    by_cases hi : i < n
    · rw [List.getElem?_append_left (by omega)] at hb
      exact hp i b hb
    · rw [List.getElem?_append_right (by omega)] at hb
      have h0 : i - l.length = 0 := by
        rcases Nat.eq_zero_or_pos (i - l.length) with h | h
        · exact h
        · rw [List.getElem?_eq_none (by simp; omega)] at hb; cases hb
      rw [h0] at hb
      simp at hb
      subst hb
      have : i = n := by omega
      subst this
      exact ha
theorem Opens.slice {t e : TypeId} {α : Type} {d : Kd α} {wf : α → Prop} (ht : P.underlying t = some (.slice e)) (hc : P.cellsOf t = 1) (o : Opens P w e d wf) :
    Opens P w t (Kd.slice e d) (fun l => l.length ≤ 9223372036854775807 ∧ ∀ a ∈ l, wf a) :=
  ⟨hc, fun H enc base sp held fuel cs x h => by
    rcases Go.Deep.open_slice ht h with ⟨rfl, _⟩ | ⟨a, len, cap, m, n, D, Pl, rfl, _, hl, hm, hmm, _, hx⟩
    · exact ⟨[], ⟨none, 0, rfl, Nat.le_refl _, rfl, by simp, fun h => absurd h (by simp)⟩, by simp, by simp⟩
    · have hle : len ≤ m := by rw [hmm]; split <;> omega
      have hmx : cap ≤ 9223372036854775807 := hm
      obtain ⟨l, hlen, hp⟩ := choose_list (p := fun i y => (∃ c, c.length = d.sz ∧ d.K w y c ∧ ∀ j u, c[j]? = some u → w.cell? (a.add (i * d.sz + j)) = some u) ∧ wf y) len (fun i hi => by
        obtain ⟨cs', h1, h2⟩ := hx i (by omega)
        obtain ⟨y, hK, hw⟩ := o.2 H enc base sp held n cs' _ h2
        obtain ⟨_, hl', hcell⟩ := World.cells?_some h1
        rw [o.1] at hl' hcell
        refine ⟨y, ⟨cs', hl', hK, fun j u hu => ?_⟩, hw⟩
        have hj : j < d.sz := by
          rcases Nat.lt_or_ge j cs'.length with h | h
          · omega
          · rw [List.getElem?_eq_none h] at hu; cases hu
        have := hcell j hj
        rw [add_add] at this
        rw [this, hu])
      refine ⟨l, ⟨some a, cap, by rw [hlen], by omega, ⟨rfl, by omega, fun _ => ⟨a, rfl, fun j y hy => (hp j y hy).1⟩⟩⟩, by omega, fun y hy => ?_⟩
      obtain ⟨i, hi⟩ := List.mem_iff_getElem?.1 hy
      exact (hp i y hi).2⟩
def OpensL (P : Program) (w : World) (fs : List Field) (off : Nat) {α : Type} (d : Kd α) (wf : α → Prop) : Prop :=
  ∀ (H : Type) (enc : TypeId × Value → H) (base : Nat) (sp : Nat → Bool) (held : Bool) (fuel : Nat) (cs : List Value),
    (∀ f ∈ fs, ∃ x, DataW.trod enc P w base sp held fuel f.type ((cs.drop f.offset).take (P.cellsOf f.type)) = some x) → cs.length = off + d.sz → ∃ a, d.K w (a : α) (cs.drop off) ∧ wf a
theorem OpensL.last {f : Field} {off : Nat} {α : Type} {d : Kd α} {wf : α → Prop} (o : Opens P w f.type d wf) (ho : f.offset = off) : OpensL P w [f] off d wf := by
  intro H enc base sp held fuel cs h hl
  obtain ⟨x, hx⟩ := h f (List.mem_singleton.2 rfl)
  rw [o.1, ho, List.take_of_length_le (by simp; omega)] at hx
  exact o.2 _ _ _ _ _ _ _ _ hx
theorem OpensL.cons {f : Field} {fs : List Field} {off : Nat} {α β : Type} {d : Kd α} {e : Kd β} {wf : α → Prop} {wf' : β → Prop} (o : Opens P w f.type d wf) (ho : f.offset = off) (r : OpensL P w fs (off + d.sz) e wf') :
    OpensL P w (f :: fs) off (Kd.pair d e) (fun p => wf p.1 ∧ wf' p.2) := by
  intro H enc base sp held fuel cs h hl
  have hs : (Kd.pair d e).sz = d.sz + e.sz := rfl
  obtain ⟨x, hx⟩ := h f (List.mem_cons_self ..)
  obtain ⟨b, hb, hwb⟩ := r H enc base sp held fuel cs (fun g hg => h g (List.mem_cons_of_mem _ hg)) (by omega)
  rw [o.1, ho] at hx
  obtain ⟨a, ha, hwa⟩ := o.2 _ _ _ _ _ _ _ _ hx
  refine ⟨(a, b), ⟨(cs.drop off).take d.sz, cs.drop (off + d.sz), ?_, ?_, ?_⟩, hwa, hwb⟩
  all_goals first
    | exact ha
    | exact hb
    | (rw [← List.drop_drop, List.take_append_drop])
theorem Opens.struct {t : TypeId} {fs : Array Field} {α β : Type} {d : Kd α} {wf : α → Prop} {f : β → α} (g : α → β) (hg : ∀ a, f (g a) = a) (ht : P.underlying t = some (.struct fs)) (hc : P.cellsOf t = d.sz) (o : OpensL P w fs.toList 0 d wf) :
    Opens P w t (Kd.iso d f) (fun b => wf (f b)) :=
  ⟨hc, fun H enc base sp held fuel cs x h => by
    obtain ⟨xs, n, _, _, hl, hn, hf⟩ := DataW.trod_struct ht h
    obtain ⟨a, ha, hw⟩ := o H enc base sp held n cs (fun f hm => by
      obtain ⟨i, hi⟩ := List.mem_iff_getElem?.1 hm
      have hi' : fs[i]? = some f := by rw [← hi, Array.getElem?_toList]
      have := hf i f hi'
      have hlt : i < xs.length := by
        rcases Nat.lt_or_ge i fs.size with h | h
        · omega
        · rw [Array.getElem?_eq_none h] at hi'; cases hi'
      rw [List.getElem?_eq_getElem hlt] at this
      exact ⟨_, this⟩) (by rw [hl, hc]; omega)
    have e : f (g a) = a := hg a
    exact ⟨g a, by show d.K w (f (g a)) cs; rw [e]; exact ha, by show wf (f (g a)); rw [e]; exact hw⟩⟩
theorem laid_mem {laid : List (String × DataW Unit)} {n : String} {d : DataW Unit} (hm : (n, d) ∈ laid) : ∀ {ps : List MemPlace}, DataW.LaidVars P w laid ps →
    ∃ g t cs fuel p, P.globalNamed n = some g ∧ (P.globals[g]?).map (·.type) = some t ∧ w.var? P n = some cs ∧ DataW.trod (fun _ => ()) P w 0 (fun _ => true) false fuel t cs.toList = some (d, p) := by
  induction laid with
  | nil => cases hm
  | cons a l ih =>
    obtain ⟨m, e⟩ := a
    rintro ps ⟨g, t, cs, fuel, p, q, h1, h2, h3, h4, h5, _⟩
    rcases List.mem_cons.1 hm with h | h
    · cases h
      exact ⟨g, t, cs, fuel, p, h1, h2, h3, h4⟩
    · exact ih h h5
theorem tab_laid {laid : List (String × DataW Unit)} {name : String} {k : IntKind} {zs : List Int} (hm : (name, Lib.tabData k zs) ∈ laid) {g : Nat} {t e : TypeId} {n : Nat}
    (hg : P.globalNamed name = some g) (hty : (P.globals[g]?).map (·.type) = some t) (ht : P.underlying t = some (.array n e)) (he : P.underlying e = some (.int k)) (hce : P.cellsOf e = 1) (hct : P.cellsOf t = n)
    (h : laidMetH P laid w) (hp : (laid.all fun x => x.2.handleName?.isNone) = true) : Lib.TabIs P w name k zs := by
  rw [MakeChecks.laidMetH_plain _ _ _ hp] at h
  obtain ⟨ps, hv, _⟩ := h
  obtain ⟨g', t', cs, fuel, p, hg', ht', hvar, hd⟩ := laid_mem hm hv
  obtain rfl := Option.some.inj (hg.symm.trans hg')
  obtain rfl := Option.some.inj (hty.symm.trans ht')
  unfold Lib.TabIs
  rw [hvar, ← Lib.cells_of_tab ht he hce hct hd]
end
end Go.Proofs.YtnjpjddliaoboaaDoorY
end
section
namespace Go.Proofs.YtnjpjddliaoboaaDoor.Pu
set_option linter.unusedSimpArgs false
set_option linter.unusedVariables false
open Go.RowKit Go.Proofs.YtnjpjddliaoboaaDoorW.PrintWords
theorem wr {x : Int} (h0 : -9223372036854775808 ≤ x) (h1 : x ≤ 9223372036854775807) : wrap64 x = x := by
  unfold wrap64
  omega
theorem Ev_succ {α : Type} {g : Nat → Option α} {r : α} (h : Ev (fun k => g (k + 1)) r) : Ev g r := Ev.step (fun _ => rfl) h
theorem bytes_ext {a b : ByteArray} (h : a.data.toList = b.data.toList) : a = b := by
  cases a
  cases b
  simp only [ByteArray.mk.injEq]
  exact Array.toList_inj.1 h
theorem size_mk (l : List UInt8) : (⟨l.toArray⟩ : ByteArray).size = l.length := by simp [ByteArray.size]
theorem app_mk (a b : List UInt8) : (⟨a.toArray⟩ : ByteArray) ++ ⟨b.toArray⟩ = ⟨(a ++ b).toArray⟩ := by
  apply bytes_ext
  simp
end Go.Proofs.YtnjpjddliaoboaaDoor.Pu
end
section
namespace Go.Proofs.YtnjpjddliaoboaaDoor.Pu
set_option linter.unusedSimpArgs false
set_option linter.unusedVariables false
open Go.RowKit Go.Proofs.YtnjpjddliaoboaaDoorW.PrintWords Go.Proofs.YtnjpjddliaoboaaDoor.PB
def revD (u : Nat) : List Int := if h : u = 0 then [] else ((48 + u % 10 : Nat) : Int) :: revD (u / 10)
termination_by u
decreasing_by omega
theorem revD_dec (u : Nat) (h : u ≠ 0) : (revD u).reverse.map (fun n => UInt8.ofNat n.toNat) = Lib.decDigits u := by
  induction u using Nat.strongRecOn with
  | _ u ih =>
    rw [revD, dif_neg h, List.reverse_cons, List.map_append]
    by_cases h1 : u < 10
    · rw [Lib.decDigits, dif_pos h1, show u / 10 = 0 by omega, revD, dif_pos rfl]
      simp only [List.reverse_nil, List.map_nil, List.nil_append, List.map_cons, Int.toNat_natCast]
      rw [show u % 10 = u by omega]
    · rw [Lib.decDigits, dif_neg h1, ih (u / 10) (by omega) (by omega)]
      simp only [List.map_cons, List.map_nil, Int.toNat_natCast]
theorem l01Dec_l1 (xs : List Int) (hx : xs.length ≤ 1000) (n : Nat) : ∀ acc : List Int, acc.length + n ≤ 1000 → n ≤ xs.length → Ev (fun k => spec_l01Dec.l1 k xs acc ((n : Int) - 1)) (strOfNums (acc ++ (xs.take n).reverse)) := by
  induction n with
  | zero =>
    intro acc _ _
    apply Ev_succ
    simp only [spec_l01Dec.l1, if_neg (show ¬ (((0 : Nat) : Int) - 1 ≥ 0) by omega), List.take_zero, List.reverse_nil, List.append_nil]
    exact Ev.now _
  | succ n ih =>
    intro acc ha hn
    apply Ev_succ
    have e : (((n + 1 : Nat) : Int) - 1) = (n : Int) := by omega
    simp only [spec_l01Dec.l1, e, if_pos (show (n : Int) ≥ 0 by omega), if_pos (show 0 ≤ (n : Int) by omega), if_pos (show (n : Int) < (xs.length : Int) by omega), if_pos (show acc.length < 140737488355328 by omega), wr (show -9223372036854775808 ≤ (n : Int) - 1 by omega) (by omega)]
    have h2 := ih (acc ++ [rd xs (n : Int)]) (by rw [List.length_append, List.length_singleton]; omega) (by omega)
    rw [List.append_assoc] at h2
    have h3 : [rd xs (n : Int)] ++ (xs.take n).reverse = (xs.take (n + 1)).reverse := by
      rw [List.take_succ_eq_append_getElem (by omega), List.reverse_append]
      simp [rd, List.getD_eq_getElem?_getD, List.getElem?_eq_getElem (show n < xs.length by omega)]
    rwa [h3] at h2
theorem l01Dec_j1 (xs : List Int) (hx : xs.length ≤ 1000) : Ev (fun k => spec_l01Dec.j1 k xs) (strOfNums xs.reverse) := by
  apply Ev_succ
  simp only [spec_l01Dec.j1, wr (show -9223372036854775808 ≤ (xs.length : Int) - 1 by omega) (by omega)]
  have h := l01Dec_l1 xs hx xs.length [] (by simpa using hx) (Nat.le_refl _)
  simpa using h
theorem tm (u : Nat) : Int.tmod (u : Int) 10 = ((u % 10 : Nat) : Int) := by
  rw [Int.tmod_eq_emod_of_nonneg (by omega)]
  omega
theorem td (u : Nat) : Int.tdiv (u : Int) 10 = ((u / 10 : Nat) : Int) := by
  rw [Int.tdiv_eq_ediv_of_nonneg (by omega)]
  omega
theorem l01Dec_pos (x0 : Int) (h0 : ¬ x0 < 0) (j : Nat) : ∀ (u : Nat) (xs : List Int), u < 10 ^ j → u < 9223372036854775808 → xs.length + j ≤ 900 → Ev (fun k => spec_l01Dec.l0 k x0 xs (u : Int)) (strOfNums (xs ++ revD u).reverse) := by
  induction j with
  | zero =>
    intro u xs hu _ hx
    have : u = 0 := by simpa using hu
    subst this
    apply Ev_succ
    simp only [spec_l01Dec.l0, if_pos (show ((0 : Nat) : Int) = 0 from rfl), if_neg h0]
    rw [revD, dif_pos rfl, List.append_nil]
    exact l01Dec_j1 xs (by omega)
  | succ j ih =>
    intro u xs hu hub hx
    apply Ev_succ
    by_cases hz : u = 0
    · subst hz
      simp only [spec_l01Dec.l0, if_pos (show ((0 : Nat) : Int) = 0 from rfl), if_neg h0]
      rw [revD, dif_pos rfl, List.append_nil]
      exact l01Dec_j1 xs (by omega)
    · have e : (wrap64 (48 + ((u % 10 : Nat) : Int))) % 256 = ((48 + u % 10 : Nat) : Int) := by
        rw [wr (by omega) (by omega)]
        omega
      simp only [spec_l01Dec.l0, if_neg (show ¬ ((u : Int) = 0) by omega), tm, td, if_neg (show ¬ (((u % 10 : Nat) : Int) < 0) by omega), if_pos (show xs.length < 140737488355328 by omega), e, wr (show -9223372036854775808 ≤ ((u / 10 : Nat) : Int) by omega) (by omega)]
      have h2 := ih (u / 10) (xs ++ [((48 + u % 10 : Nat) : Int)]) (by rw [Nat.pow_succ] at hu; omega) (by omega) (by rw [List.length_append, List.length_singleton]; omega)
      rw [List.append_assoc] at h2
      rw [revD, dif_neg hz]
      exact h2
theorem l01Dec_neg (x0 : Int) (h0 : x0 < 0) (j : Nat) : ∀ (u : Nat) (xs : List Int), u < 10 ^ j → u ≤ 9223372036854775808 → xs.length + j ≤ 900 → Ev (fun k => spec_l01Dec.l0 k x0 xs (-(u : Int))) (strOfNums ((xs ++ revD u) ++ [45]).reverse) := by
  induction j with
  | zero =>
    intro u xs hu _ hx
    have : u = 0 := by simpa using hu
    subst this
    apply Ev_succ
    simp only [spec_l01Dec.l0, if_pos (show (-((0 : Nat) : Int)) = 0 from rfl), if_pos h0, if_pos (show xs.length < 140737488355328 by omega)]
    rw [revD, dif_pos rfl, List.append_nil]
    exact l01Dec_j1 (xs ++ [45]) (by rw [List.length_append, List.length_singleton]; omega)
  | succ j ih =>
    intro u xs hu hub hx
    apply Ev_succ
    by_cases hz : u = 0
    · subst hz
      simp only [spec_l01Dec.l0, if_pos (show (-((0 : Nat) : Int)) = 0 from rfl), if_pos h0, if_pos (show xs.length < 140737488355328 by omega)]
      rw [revD, dif_pos rfl, List.append_nil]
      exact l01Dec_j1 (xs ++ [45]) (by rw [List.length_append, List.length_singleton]; omega)
    · have e1 : Int.tmod (-(u : Int)) 10 = -((u % 10 : Nat) : Int) := by rw [Int.neg_tmod, tm]
      have e2 : Int.tdiv (-(u : Int)) 10 = -((u / 10 : Nat) : Int) := by rw [Int.neg_tdiv, td]
      have e : (wrap64 (48 + ((u % 10 : Nat) : Int))) % 256 = ((48 + u % 10 : Nat) : Int) := by
        rw [wr (by omega) (by omega)]
        omega
      have h2 := ih (u / 10) (xs ++ [((48 + u % 10 : Nat) : Int)]) (by rw [Nat.pow_succ] at hu; omega) (by omega) (by rw [List.length_append, List.length_singleton]; omega)
      rw [List.append_assoc xs] at h2
      simp only [spec_l01Dec.l0, if_neg (show ¬ (-(u : Int) = 0) by omega), e1, e2, if_pos (show xs.length < 140737488355328 by omega), wr (show -9223372036854775808 ≤ -((u / 10 : Nat) : Int) by omega) (by omega), Int.neg_neg, wr (show -9223372036854775808 ≤ ((u % 10 : Nat) : Int) by omega) (by omega)]
      rw [revD, dif_neg hz]
      by_cases hm : u % 10 = 0
      · rw [hm] at h2
        simp only [hm, show ¬ (-((0 : Nat) : Int) < 0) by omega, if_false, show (wrap64 (48 + -((0 : Nat) : Int))) % 256 = ((48 + 0 : Nat) : Int) by rw [wr (by omega) (by omega)]; omega]
        exact h2
      · simp only [if_pos (show -((u % 10 : Nat) : Int) < 0 by omega), e]
        exact h2
theorem l01Dec_eq (n : Int) (h1 : -9223372036854775808 ≤ n) (h2 : n ≤ 9223372036854775807) : Ev (fun k => spec_l01Dec.f k n) ⟨(Lib.itoa n).toArray⟩ := by
  unfold spec_l01Dec.f
  by_cases h0 : n = 0
  · subst h0
    simp only [if_pos]
    have : (Lib.itoa 0) = [48] := by decide +kernel
    rw [this]
    exact Ev.now _
  · simp only [if_neg h0]
    by_cases hn : n < 0
    · obtain ⟨u, hu⟩ : ∃ u : Nat, n = -(u : Int) := ⟨n.natAbs, by omega⟩
      have h := l01Dec_neg n hn 20 u [] (by omega) (by omega) (by simp)
      rw [← hu] at h
      have e : strOfNums (([] ++ revD u) ++ [45]).reverse = ⟨(Lib.itoa n).toArray⟩ := by
        apply bytes_ext
        rw [strOfNums_data, List.nil_append, List.reverse_append, List.map_append, revD_dec u (by omega)]
        unfold Lib.itoa
        rw [if_pos hn, show n.natAbs = u by omega]
        rfl
      rwa [e] at h
    · obtain ⟨u, hu⟩ : ∃ u : Nat, n = (u : Int) := ⟨n.natAbs, by omega⟩
      have h := l01Dec_pos n hn 20 u [] (by omega) (by omega) (by simp)
      rw [← hu] at h
      have e : strOfNums ([] ++ revD u).reverse = ⟨(Lib.itoa n).toArray⟩ := by
        apply bytes_ext
        rw [strOfNums_data, List.nil_append, revD_dec u (by omega)]
        unfold Lib.itoa
        rw [if_neg hn, show n.toNat = u by omega]
      rwa [e] at h
theorem decDigits_lt (j : Nat) : ∀ u, u < 10 ^ (j + 1) → (Lib.decDigits u).length ≤ j + 1 := by
  induction j with
  | zero =>
    intro u hu
    rw [Lib.decDigits, dif_pos (by simpa using hu)]
    simp
  | succ j ih =>
    intro u hu
    rw [Lib.decDigits]
    by_cases h : u < 10
    · rw [dif_pos h]
      simp
    · rw [dif_neg h, List.length_append]
      have := ih (u / 10) (by rw [Nat.pow_succ] at hu; omega)
      simp only [List.length_singleton]
      omega
theorem itoa_length (n : Int) (h1 : -9223372036854775808 ≤ n) (h2 : n ≤ 9223372036854775807) : (Lib.itoa n).length ≤ 20 := by
  unfold Lib.itoa
  by_cases hn : n < 0
  · rw [if_pos hn, List.length_cons]
    have := decDigits_lt 18 n.natAbs (by omega)
    omega
  · rw [if_neg hn]
    have := decDigits_lt 18 n.toNat (by omega)
    omega
theorem Decimal_eq (n : Int) (h1 : -9223372036854775808 ≤ n) (h2 : n ≤ 9223372036854775807) : impl_Decimal.f n = some ⟨(Lib.itoa n).toArray⟩ := by
  unfold impl_Decimal.f
  rw [if_pos ⟨h1, h2⟩]
end Go.Proofs.YtnjpjddliaoboaaDoor.Pu
end
section
namespace Go.Proofs.YtnjpjddliaoboaaDoor.Pu
set_option linter.unusedSimpArgs false
set_option linter.unusedVariables false
open Go.RowKit Go.Proofs.YtnjpjddliaoboaaDoorW.PrintWords Go.Proofs.YtnjpjddliaoboaaDoor.PB
theorem l00In_eq (a b c : Int) : spec_l00In.f a b c = some (decide (b ≤ a ∧ a ≤ c)) := by
  unfold spec_l00In.f
  by_cases h : a ≥ b
  · rw [if_pos h]
    simp only [ge_iff_le] at h
    simp [h]
  · rw [if_neg h]
    simp only [ge_iff_le] at h
    simp [h]
theorem within_eq (a b c : Int) : impl_within.f a b c = some (decide (b ≤ a ∧ a ≤ c)) := by
  unfold impl_within.f
  by_cases h : a ≥ b
  · rw [if_pos h]
    simp only [ge_iff_le] at h
    simp [h]
  · rw [if_neg h]
    simp only [ge_iff_le] at h
    simp [h]
end Go.Proofs.YtnjpjddliaoboaaDoor.Pu
end
section
namespace Go.Proofs.YtnjpjddliaoboaaDoor.Pu
set_option linter.unusedSimpArgs false
set_option linter.unusedVariables false
open Go.RowKit Go.Proofs.YtnjpjddliaoboaaDoorW.PrintWords Go.Proofs.YtnjpjddliaoboaaDoor.PB
def tailT (l : List Int) : List UInt8 := l.flatMap fun n => 44 :: Lib.itoa n
def listT : List Int → List UInt8
  | [] => [45]
  | a :: r => Lib.itoa a ++ tailT r
theorem join_tail (sep : List UInt8) (a : List UInt8) (r : List (List UInt8)) : Lib.join (a :: r) sep = a ++ r.flatMap fun x => sep ++ x := by
  unfold Lib.join
  induction r generalizing a with
  | nil => simp [List.intercalate]
  | cons b r ih =>
    have h := ih b
    simp only [List.intercalate, List.intersperse_cons_cons, List.flatten_cons] at h ⊢
    rw [h]
    simp
theorem join_listT (a : Int) (r : List Int) : Lib.join ((a :: r).map Lib.itoa) [44] = listT (a :: r) := by
  rw [List.map_cons, join_tail]
  simp [listT, tailT, List.flatMap_map]
theorem tailT_length (l : List Int) (hw : ∀ x ∈ l, -9223372036854775808 ≤ x ∧ x ≤ 9223372036854775807) : (tailT l).length ≤ 21 * l.length := by
  induction l with
  | nil => simp [tailT]
  | cons a r ih =>
    have h1 := itoa_length a (hw a (by simp)).1 (hw a (by simp)).2
    have h2 := ih (fun x hx => hw x (by simp [hx]))
    unfold tailT at h2 ⊢
    rw [List.flatMap_cons, List.length_append, List.length_cons, List.length_cons]
    omega
theorem listT_length (l : List Int) (hw : ∀ x ∈ l, -9223372036854775808 ≤ x ∧ x ≤ 9223372036854775807) : (listT l).length ≤ 21 * l.length + 1 := by
  cases l with
  | nil => simp [listT]
  | cons a r =>
    have h1 := itoa_length a (hw a (by simp)).1 (hw a (by simp)).2
    have h2 := tailT_length r (fun x hx => hw x (by simp [hx]))
    simp only [listT, List.length_append, List.length_cons]
    omega
theorem rd_mem (l : List Int) (i : Nat) (h : i < l.length) : rd l (i : Int) = l[i] := by
  simp [rd, List.getD_eq_getElem?_getD, List.getElem?_eq_getElem h]
theorem drop_rd (l : List Int) (i : Nat) (h : i < l.length) : l.drop i = rd l (i : Int) :: l.drop (i + 1) := by
  rw [rd_mem l i h]
  exact List.drop_eq_getElem_cons h
theorem l01List_l0 (l : List Int) (hl : l.length ≤ 1000) (hw : ∀ x ∈ l, -9223372036854775808 ≤ x ∧ x ≤ 9223372036854775807) (d : Nat) :
    ∀ (i : Nat) (acc : List UInt8), i + d = l.length → 0 < i → acc.length + 21 * d ≤ 1000000 → Ev (fun k => spec_l01List.l0 k l ⟨acc.toArray⟩ (i : Int)) ⟨(acc ++ tailT (l.drop i)).toArray⟩ := by
  induction d with
  | zero =>
    intro i acc hi _ _
    apply Ev_succ
    simp only [spec_l01List.l0, if_neg (show ¬ ((i : Int) < (l.length : Int)) by omega), show l.drop i = [] from List.drop_of_length_le (by omega)]
    simp only [tailT, List.flatMap_nil, List.append_nil]
    exact Ev.now _
  | succ d ih =>
    intro i acc hi h0 ha
    have hlt : i < l.length := by omega
    have hx := hw (rd l (i : Int)) (by rw [rd_mem l i hlt]; exact List.getElem_mem hlt)
    have hs := itoa_length _ hx.1 hx.2
    have e1 : (⟨acc.toArray⟩ : ByteArray) ++ ⟨#[44]⟩ = ⟨(acc ++ [44]).toArray⟩ := app_mk acc [44]
    apply Ev_succ
    simp only [spec_l01List.l0, if_pos (show (i : Int) < (l.length : Int) by omega), if_pos (show (i : Int) > 0 by omega), size_mk, if_pos (show acc.length + 1 ≤ 9223372036854775807 by omega), if_pos (show 0 ≤ (i : Int) by omega), e1, wr (show -9223372036854775808 ≤ (i : Int) + 1 by omega) (by omega)]
    refine Ev.bind (l01Dec_eq _ hx.1 hx.2) ?_
    simp only [size_mk, List.length_append, List.length_singleton, if_pos (show acc.length + 1 + (Lib.itoa (rd l (i : Int))).length ≤ 9223372036854775807 by omega), app_mk]
    have h2 := ih (i + 1) ((acc ++ [44]) ++ Lib.itoa (rd l (i : Int))) (by omega) (by omega) (by simp only [List.length_append, List.length_singleton]; omega)
    rw [drop_rd l i hlt]
    rw [show ((i + 1 : Nat) : Int) = (i : Int) + 1 by omega] at h2
    have e3 : (acc ++ [44]) ++ Lib.itoa (rd l (i : Int)) ++ tailT (l.drop (i + 1)) = acc ++ tailT (rd l (i : Int) :: l.drop (i + 1)) := by
      simp [tailT]
    rwa [e3] at h2
theorem l01List_eq (l : List Int) (hl : l.length ≤ 1000) (hw : ∀ x ∈ l, -9223372036854775808 ≤ x ∧ x ≤ 9223372036854775807) : Ev (fun k => spec_l01List.f k l) ⟨(listT l).toArray⟩ := by
  unfold spec_l01List.f
  cases l with
  | nil =>
    simp only [List.length_nil, Int.natCast_zero, if_true, show ((0 : Nat) : Int) = 0 from rfl]
    exact Ev.now _
  | cons a r =>
    have hx := hw a (by simp)
    have hs := itoa_length _ hx.1 hx.2
    have hlen : (a :: r).length = r.length + 1 := rfl
    simp only [if_neg (show ¬ (((a :: r).length : Nat) : Int) = 0 by omega)]
    apply Ev_succ
    have e0 : rd (a :: r) 0 = a := rfl
    simp only [spec_l01List.l0, if_pos (show (0 : Int) < ((a :: r).length : Int) by omega), if_neg (show ¬ ((0 : Int) > 0) by omega), if_pos (show (0 : Int) ≤ 0 by omega), e0, wr (show -9223372036854775808 ≤ (0 : Int) + 1 by omega) (by omega)]
    refine Ev.bind (l01Dec_eq _ hx.1 hx.2) ?_
    have e1 : (⟨#[]⟩ : ByteArray) = ⟨([] : List UInt8).toArray⟩ := rfl
    simp only [e1, size_mk, List.length_nil, if_pos (show 0 + (Lib.itoa a).length ≤ 9223372036854775807 by omega), app_mk, List.nil_append]
    have h := l01List_l0 (a :: r) hl hw r.length 1 (Lib.itoa a) (by omega) (by omega) (by omega)
    exact h
theorem ListText_l0 (l : List Int) (hl : l.length ≤ 64) (hne : l ≠ []) (hw : ∀ x ∈ l, -1000000000000 ≤ x ∧ x ≤ 1000000000000) (d : Nat) :
    ∀ i : Nat, i + d = l.length → Ev (fun k => impl_ListText.l0 k ((l.take i).map fun n => ⟨(Lib.itoa n).toArray⟩) l (l.length : Int) (i : Int)) ⟨(listT l).toArray⟩ := by
  induction d with
  | zero =>
    intro i hi
    apply Ev_succ
    simp only [impl_ListText.l0, if_neg (show ¬ ((i : Int) < (l.length : Int)) by omega), List.take_of_length_le (show l.length ≤ i by omega)]
    obtain ⟨a, r, rfl⟩ := List.exists_cons_of_ne_nil hne
    have e : Lib.join (((a :: r).map fun n => (⟨(Lib.itoa n).toArray⟩ : ByteArray)).map (·.data.toList)) (⟨#[44]⟩ : ByteArray).data.toList = listT (a :: r) := by
      rw [← join_listT, List.map_map]
      rfl
    have hb := listT_length (a :: r) (fun x hx => by have := hw x hx; omega)
    unfold strings_Join.f
    rw [e]
    simp only [if_pos (show (listT (a :: r)).length ≤ 140737488355328 ∧ ((a :: r).map fun n => (⟨(Lib.itoa n).toArray⟩ : ByteArray)).length ≤ 140737488355328 from ⟨by omega, by rw [List.length_map]; omega⟩), Option.bind_some]
    exact Ev.now _
  | succ d ih =>
    intro i hi
    have hlt : i < l.length := by omega
    have hx := hw (rd l (i : Int)) (by rw [rd_mem l i hlt]; exact List.getElem_mem hlt)
    apply Ev_succ
    simp only [impl_ListText.l0, if_pos (show (i : Int) < (l.length : Int) by omega), if_pos (show 0 ≤ (i : Int) by omega), within_eq, Option.bind_some, hx, and_self, decide_true, if_true, Decimal_eq (rd l (i : Int)) (by omega) (by omega), wr (show -9223372036854775808 ≤ (i : Int) + 1 by omega) (by omega)]
    simp only [if_pos (show ((l.take i).map fun n => (⟨(Lib.itoa n).toArray⟩ : ByteArray)).length < 8796093022208 by rw [List.length_map, List.length_take]; omega)]
    have h2 := ih (i + 1) (by omega)
    rw [show ((i + 1 : Nat) : Int) = (i : Int) + 1 by omega, List.take_succ_eq_append_getElem hlt, List.map_append, ← rd_mem l i hlt] at h2
    exact h2
theorem ListText_eq (l : List Int) (hl : l.length ≤ 64) (hw : ∀ x ∈ l, -1000000000000 ≤ x ∧ x ≤ 1000000000000) : Ev (fun k => impl_ListText.f k l) ⟨(listT l).toArray⟩ := by
  unfold impl_ListText.f
  simp only [if_neg (show ¬ ((l.length : Int) > 64) by omega)]
  by_cases h0 : l = []
  · subst h0
    simp only [List.length_nil, show ((0 : Nat) : Int) = 0 from rfl, if_true]
    exact Ev.now _
  · have hp : 0 < l.length := List.length_pos_iff.2 h0
    simp only [if_neg (show ¬ ((l.length : Int) = 0) by omega), if_pos (show 0 ≤ (l.length : Int) by omega), Int.toNat_natCast, if_pos (show l.length ≤ 17592186044416 by omega)]
    exact ListText_l0 l hl h0 hw l.length 0 (by omega)
end Go.Proofs.YtnjpjddliaoboaaDoor.Pu
end
section
namespace Go.Proofs.YtnjpjddliaoboaaDoor.Pu
set_option linter.unusedSimpArgs false
set_option linter.unusedVariables false
open Go.RowKit Go.Proofs.YtnjpjddliaoboaaDoorW.PrintWords Go.Proofs.YtnjpjddliaoboaaDoor.PB
theorem set_copy {α : Type} (l : List α) (z : α) (i d : Nat) (h : i + (d + 1) = l.length) (x : α) (hx : l[i]? = some x) :
    (l.take i ++ List.replicate (d + 1) z).set i x = l.take (i + 1) ++ List.replicate d z := by
  have hlt : i < l.length := by omega
  have hl : (l.take i).length = i := by rw [List.length_take]; omega
  rw [List.set_append_right _ _ (by omega), hl, Nat.sub_self, List.replicate_succ, List.set_cons_zero, List.take_succ_eq_append_getElem hlt]
  rw [List.getElem?_eq_getElem hlt] at hx
  obtain rfl := Option.some.inj hx
  rw [List.append_assoc]
  rfl
theorem toInt64S_l0 (l : List Int) (hl : l.length ≤ 1048576) (d : Nat) : ∀ i : Nat, i + d = l.length → Ev (fun k => laws_toInt64S.l0 k l (l.take i ++ List.replicate d 0) (i : Int)) l := by
  induction d with
  | zero =>
    intro i hi
    apply Ev_succ
    simp only [laws_toInt64S.l0, if_neg (show ¬ ((i : Int) < (l.length : Int)) by omega), List.take_of_length_le (show l.length ≤ i by omega), List.replicate_zero, List.append_nil]
    exact Ev.now _
  | succ d ih =>
    intro i hi
    have hlt : i < l.length := by omega
    have hlen : (l.take i ++ List.replicate (d + 1) (0 : Int)).length = l.length := by
      rw [List.length_append, List.length_take, List.length_replicate]
      omega
    have hrd : rd l (i : Int) = l[i] := by simp [rd, List.getD_eq_getElem?_getD, List.getElem?_eq_getElem hlt]
    apply Ev_succ
    simp only [laws_toInt64S.l0, hlen, if_pos (show (i : Int) < (l.length : Int) by omega), if_pos (show 0 ≤ (i : Int) by omega), Int.toNat_natCast, wr (show -9223372036854775808 ≤ (i : Int) + 1 by omega) (by omega)]
    rw [set_copy l 0 i d hi (rd l (i : Int)) (by rw [hrd]; exact List.getElem?_eq_getElem hlt)]
    have h2 := ih (i + 1) (by omega)
    rwa [show ((i + 1 : Nat) : Int) = (i : Int) + 1 by omega] at h2
theorem toInt64S_eq (l : List Int) (hl : l.length ≤ 1048576) : Ev (fun k => laws_toInt64S.f k l) l := by
  unfold laws_toInt64S.f
  simp only [if_pos (show 0 ≤ (l.length : Int) by omega), Int.toNat_natCast, if_pos (show l.length ≤ 35184372088832 by omega)]
  exact toInt64S_l0 l hl l.length 0 (by omega)
theorem eqInt64S_l0 (l : List Int) (hl : l.length ≤ 1048576) (d : Nat) : ∀ i : Nat, i + d = l.length → Ev (fun k => laws_eqInt64S.l0 k l l (i : Int)) true := by
  induction d with
  | zero =>
    intro i hi
    apply Ev_succ
    simp only [laws_eqInt64S.l0, if_neg (show ¬ ((i : Int) < (l.length : Int)) by omega)]
    exact Ev.now _
  | succ d ih =>
    intro i hi
    apply Ev_succ
    simp only [laws_eqInt64S.l0, if_pos (show (i : Int) < (l.length : Int) by omega), if_pos (show 0 ≤ (i : Int) by omega), if_true, wr (show -9223372036854775808 ≤ (i : Int) + 1 by omega) (by omega)]
    have h2 := ih (i + 1) (by omega)
    rwa [show ((i + 1 : Nat) : Int) = (i : Int) + 1 by omega] at h2
theorem eqInt64S_eq (l : List Int) (hl : l.length ≤ 1048576) : Ev (fun k => laws_eqInt64S.f k l l) true := by
  unfold laws_eqInt64S.f
  simp only [if_true]
  exact eqInt64S_l0 l hl l.length 0 (by omega)
end Go.Proofs.YtnjpjddliaoboaaDoor.Pu
end
section
namespace Go.Proofs.YtnjpjddliaoboaaDoor.Pu
set_option linter.unusedSimpArgs false
set_option linter.unusedVariables false
open Go.RowKit Go.Proofs.YtnjpjddliaoboaaDoorW.PrintWords Go.Proofs.YtnjpjddliaoboaaDoor.PB
def pitchesIn (l : List Int) : Bool := l.all fun n => decide (-12 ≤ n ∧ n ≤ 23)
def okPattern (l : List Int) (c : Int) : Bool := decide (1 ≤ l.length ∧ l.length ≤ 8) && (pitchesIn l && decide (0 ≤ c ∧ c ≤ 1000))
def patT (l : List Int) (c : Int) : List UInt8 := Lib.itoa c ++ 58 :: listT l
theorem l05Pitches_l0 (l : List Int) (hl : l.length ≤ 64) (d : Nat) : ∀ i : Nat, i + d = l.length → Ev (fun k => spec_l05Pitches.l0 k l (i : Int)) (pitchesIn (l.drop i)) := by
  induction d with
  | zero =>
    intro i hi
    apply Ev_succ
    simp only [spec_l05Pitches.l0, if_neg (show ¬ ((i : Int) < (l.length : Int)) by omega), List.drop_of_length_le (show l.length ≤ i by omega), show ((l.length : Nat) : Int) ≤ 64 by omega, decide_true]
    exact Ev.now _
  | succ d ih =>
    intro i hi
    have hlt : i < l.length := by omega
    apply Ev_succ
    simp only [spec_l05Pitches.l0, spec_l03Pitch.f, l00In_eq, Option.bind_some, if_pos (show (i : Int) < (l.length : Int) by omega), if_pos (show 0 ≤ (i : Int) by omega), wr (show -9223372036854775808 ≤ (i : Int) + 1 by omega) (by omega)]
    have h2 := ih (i + 1) (by omega)
    rw [show ((i + 1 : Nat) : Int) = (i : Int) + 1 by omega] at h2
    rw [drop_rd l i hlt]
    unfold pitchesIn
    rw [List.all_cons]
    by_cases h : -12 ≤ rd l (i : Int) ∧ rd l (i : Int) ≤ 23
    · simp only [h, and_self, decide_true, if_true, Bool.true_and]
      exact h2
    · simp only [h, decide_false, Bool.false_eq_true, if_false, Bool.false_and]
      exact Ev.now _
theorem l11One_eq (l : List Int) (c : Int) : Ev (fun k => spec_l11One.f k [⟨l, c⟩]) (okPattern l c) := by
  unfold spec_l11One.f okPattern
  simp only [List.length_singleton, show (0 : Int) < ((1 : Nat) : Int) by omega, if_true, rd_T34, show ([(⟨l, c⟩ : S34)].getD (0 : Int).toNat z34) = ⟨l, c⟩ from rfl, l00In_eq, Option.bind_some]
  by_cases h : 1 ≤ l.length ∧ l.length ≤ 8
  · simp only [show (1 : Int) ≤ (l.length : Int) ∧ (l.length : Int) ≤ 8 by omega, h, and_self, decide_true, if_true, Bool.true_and]
    have h5 : Ev (fun k => spec_l05Pitches.f k l) (pitchesIn l) := l05Pitches_l0 l (by omega) l.length 0 (by omega)
    refine Ev.bind h5 ?_
    cases pitchesIn l with
    | true => simp only [if_true, Bool.true_and]; exact Ev.now _
    | false => simp only [Bool.false_eq_true, if_false, Bool.false_and]; exact Ev.now _
  · simp only [show ¬ ((1 : Int) ≤ (l.length : Int) ∧ (l.length : Int) ≤ 8) by omega, h, decide_false, Bool.false_eq_true, if_false, Bool.false_and]
    exact Ev.now _
theorem okPattern_wf {l : List Int} {c : Int} (h : okPattern l c = true) : l.length ≤ 8 ∧ (∀ x ∈ l, -12 ≤ x ∧ x ≤ 23) ∧ 0 ≤ c ∧ c ≤ 1000 := by
  simp only [okPattern, pitchesIn, Bool.and_eq_true, decide_eq_true_eq, List.all_eq_true] at h
  exact ⟨h.1.2, h.2.1, h.2.2⟩
theorem l11Text_eq (l : List Int) (c : Int) (h : okPattern l c = true) : Ev (fun k => spec_l11Text.f k [⟨l, c⟩]) ⟨(patT l c).toArray⟩ := by
  obtain ⟨h1, h2, h3⟩ := okPattern_wf h
  have hs := itoa_length c (by omega) (by omega)
  have hs2 := listT_length l (fun x hx => by have := h2 x hx; omega)
  have e1 : (⟨(Lib.itoa c).toArray⟩ : ByteArray) ++ ⟨#[58]⟩ = ⟨(Lib.itoa c ++ [58]).toArray⟩ := app_mk _ [58]
  unfold spec_l11Text.f
  simp only [List.length_singleton, show (0 : Int) < ((1 : Nat) : Int) by omega, if_true, rd_T34, show ([(⟨l, c⟩ : S34)].getD (0 : Int).toNat z34) = ⟨l, c⟩ from rfl]
  refine Ev.bind (l01Dec_eq c (by omega) (by omega)) ?_
  simp only [size_mk, if_pos (show (Lib.itoa c).length + 1 ≤ 9223372036854775807 by omega), e1]
  refine Ev.bind (l01List_eq l (by omega) (fun x hx => by have := h2 x hx; omega)) ?_
  simp only [size_mk, List.length_append, List.length_singleton, if_pos (show (Lib.itoa c).length + 1 + (listT l).length ≤ 9223372036854775807 by omega), app_mk]
  rw [show Lib.itoa c ++ [58] ++ listT l = patT l c by simp [patT]]
  exact Ev.now _
theorem sPatternText_eq (l : List Int) (c : Int) : Ev (fun k => spec_PatternText.f k l c) (if okPattern l c = true then ⟨(patT l c).toArray⟩ else ⟨#[]⟩) := by
  unfold spec_PatternText.f
  refine Ev.bind (l11One_eq l c) ?_
  cases h : okPattern l c with
  | true =>
    simp only [if_true]
    exact Ev.bind (l11Text_eq l c h) (Ev.now _)
  | false =>
    simp only [Bool.false_eq_true, if_false]
    exact Ev.now _
theorem Pattern_valid_eq (l : List Int) (c : Int) : impl_Pattern_valid.f l c = some (okPattern l c) := by
  unfold impl_Pattern_valid.f okPattern impl_allWithin.f
  by_cases h1 : (l.length : Int) ≥ 1
  · by_cases h2 : (l.length : Int) ≤ 8
    · simp only [if_pos h1, if_pos h2, Option.bind_some, within_eq, decide_eq_true (show 1 ≤ l.length ∧ l.length ≤ 8 by omega), Bool.true_and]
      cases hp : pitchesIn l with
      | true => simp only [show (l.all fun n => decide (-12 ≤ n ∧ n ≤ 23)) = true from hp, if_true, Bool.true_and]
      | false => simp only [show (l.all fun n => decide (-12 ≤ n ∧ n ≤ 23)) = false from hp, Bool.false_eq_true, if_false, Bool.false_and]
    · simp only [if_pos h1, if_neg h2, show ¬ (1 ≤ l.length ∧ l.length ≤ 8) by omega, decide_false, Bool.false_and]
  · simp only [if_neg h1, show ¬ (1 ≤ l.length ∧ l.length ≤ 8) by omega, decide_false, Bool.false_and]
theorem PatternText_eq (l : List Int) (c : Int) : Ev (fun k => impl_PatternText.f k l c) (if okPattern l c = true then ⟨(patT l c).toArray⟩ else ⟨#[]⟩) := by
  unfold impl_PatternText.f
  simp only [Pattern_valid_eq, Option.bind_some]
  cases h : okPattern l c with
  | false =>
    simp only [Bool.false_eq_true, if_false]
    exact Ev.now _
  | true =>
    obtain ⟨h1, h2, h3⟩ := okPattern_wf h
    have hs := itoa_length c (by omega) (by omega)
    have hs2 := listT_length l (fun x hx => by have := h2 x hx; omega)
    have e1 : (⟨(Lib.itoa c).toArray⟩ : ByteArray) ++ ⟨#[58]⟩ = ⟨(Lib.itoa c ++ [58]).toArray⟩ := app_mk _ [58]
    simp only [if_true, Decimal_eq c (by omega) (by omega), Option.bind_some, size_mk, if_pos (show (Lib.itoa c).length + 1 ≤ 9223372036854775807 by omega), e1]
    refine Ev.bind (ListText_eq l (by omega) (fun x hx => by have := h2 x hx; omega)) ?_
    simp only [size_mk, List.length_append, List.length_singleton, if_pos (show (Lib.itoa c).length + 1 + (listT l).length ≤ 9223372036854775807 by omega), app_mk]
    rw [show Lib.itoa c ++ [58] ++ listT l = patT l c by simp [patT]]
    exact Ev.now _
theorem lawW (l : List Int) (c : Int) (hl : l.length ≤ 9223372036854775807 ∧ ∀ a ∈ l, (Lit.int .i64 a).wf = true) (_ : (Lit.int .i64 c).wf = true) : ∃ n, laws_FnExactPatternText.f n l c = some true := by
  have hz : Ev (fun n => laws_FnExactPatternText.f n l c) true := by
    unfold laws_FnExactPatternText.f laws_szPattern.f laws_szInt64S.f
    have hl' := hl.1
    by_cases h1 : wrap64 (1048576 - (l.length : Int)) < 0
    · simp only [if_pos h1, Option.bind_some, show (-1 : Int) < 0 from by omega, if_true]
      exact Ev.now _
    · simp only [if_neg h1, Option.bind_some]
      rw [wr (by omega) (by omega)] at h1
      have ht : Ev (fun k => laws_toPattern.f k l c) (l, c) := by
        unfold laws_toPattern.f
        exact Ev.bind (toInt64S_eq l (by omega)) (Ev.now _)
      refine Ev.bind ht ?_
      refine Ev.bind (sPatternText_eq l c) ?_
      refine Ev.bind ht ?_
      refine Ev.bind (PatternText_eq l c) ?_
      simp only [if_true]
      refine Ev.bind ht ?_
      have he : Ev (fun k => laws_eqPattern.f k l c l c) true := by
        unfold laws_eqPattern.f
        refine Ev.bind (eqInt64S_eq l (by omega)) ?_
        simp only [if_true]
        exact Ev.now _
      refine Ev.bind he ?_
      simp only [if_true]
      exact Ev.now _
  exact hz.rounds
end Go.Proofs.YtnjpjddliaoboaaDoor.Pu
end
section
namespace Go.Proofs.YtnjpjddliaoboaaDoor.fnExactPatternText
open Go.ChangeShapes Go.WideShapes Go.ChangeAt Go.RowKit Go.Proofs.YtnjpjddliaoboaaDoorY Go.Proofs.YtnjpjddliaoboaaDoorW.PrintWords Go.Proofs.YtnjpjddliaoboaaDoor.PB
open Go.ChangeMaps (open_string shut_string)
set_option linter.unusedVariables false
theorem own : ownKnob Tryd.prog.godebug = none := by kernel_rfl
theorem laidOut : laidOutB Tryd.prog = true := by kernel_rfl
def laid : List (String × DataW Unit) := [("math/bits.deBruijn32tab", Rows.laid_math_bits_deBruijn32tab), ("math/bits.deBruijn64tab", Rows.laid_math_bits_deBruijn64tab), ("internal/strconv.uint64pow10", Rows.laid_internal_strconv_uint64pow10)]
theorem door_met (os : Os) (args : Array Value) : laidMetH Tryd.prog laid ((World.doorLaid Tryd.prog 400 os).forCall (fun _ _ => 0) ⟨#[], args, []⟩).memory :=
  laidMetH_of_parts3 (fuel := 8) (laidMet_of_run' 8 (by kernel_rfl) (by kernel_rfl)) (by kernel_rfl) (by kernel_rfl)
theorem lv_of {W : World} (h : laidMetH Tryd.prog laid W) : Lv W :=
  ⟨tab_laid (zs := Lib.pow10Tab) (n := 20) (by rw [show (Lib.tabData .u64 Lib.pow10Tab : DataW Unit) = Rows.laid_internal_strconv_uint64pow10 by kernel_rfl]; simp [laid]) (show Tryd.prog.globalNamed "internal/strconv.uint64pow10" = some 1 by kernel_rfl) (by kernel_rfl) Tryd.underlying108 Tryd.underlying90 (by kernel_rfl) (by kernel_rfl) h (by kernel_rfl)⟩
set_option maxRecDepth 100000 in
theorem lifted (os : Os) (started : os.Started) (H : Type) (enc : TypeId × Value → H) :
    ReturnsInHanded {} Tryd.checked os 4 .any (fun w args => (Rows.fnExactPatternTextSpec.pre enc Tryd.prog Tryd.f4 [] false w args ∧ laidMetH Tryd.prog laid w) ∧ sizedMet enc Tryd.prog Tryd.f4 (OpenSpec.ofChange Rows.fnExactPatternTextSpec) false w args)
      (Rows.fnExactPatternTextSpec.post enc Tryd.prog Tryd.f4 false true false false) := by
  refine returnsInHanded_of_change_and (C := Tryd.checked) (X := fun w _ => laidMetH Tryd.prog laid w) (fun _ _ _ hh h => h.of_heap hh) own started (by kernel_rfl) Tryd.func4
    (ChangeSpec.witness_shaped (enc := enc) (C := Tryd.checked) (os := os) (X := fun w _ => laidMetH Tryd.prog laid w) false (World.doorLaid Tryd.prog 400 os) #[.agg #[.slice none 0 0, .int .i64 0]] 8 rfl (World.shaped_of_RefB (by kernel_rfl) (by kernel_rfl)) (by kernel_rfl) (by kernel_rfl) (by kernel_rfl) (door_met os _)) ?_
  intro W base args ds gs before hval0 hW _ hsz0 hL _
  have hval : ∀ (j : Nat) t v, Tryd.f4.params[j]? = some t → args[j]? = some v → Value.okWide Tryd.prog W .any base t v := hval0
  have hW' := hW
  obtain ⟨p, q, hA0, hV, rfl, hfz, hnd⟩ := hW
  have hA : DataW.TrodAll enc Tryd.prog W 0 (fun _ => true) true Tryd.f4.params.toList args.toList ds p := hA0
  rw [Tryd.params4] at hA hval
  obtain ⟨v0, vs0, d0, ds0, p0, q0, hargs, rfl, rfl, h0, r0⟩ := trodAll_cons hA
  obtain ⟨rfl, rfl, rfl⟩ := trodAll_nil r0
  obtain rfl : args = #[v0] := by cases args; simp_all
  obtain ⟨rfl, rfl⟩ := trodVars_none hV
  have k0 := h0
  have lt0 : ∀ x ∈ p0, x.block < W.heap.size := by obtain ⟨m, hm⟩ := k0; exact DataW.trod_lt m _ _ _ hm
  obtain ⟨cs0, rfl, _⟩ := okWide_struct Tryd.underlying31 (hval 0 31 v0 rfl rfl)
  obtain ⟨fu0, hf0⟩ := h0
  obtain ⟨cl0⟩ := cs0
  obtain ⟨x0, hK0, hw0⟩ := (Opens.struct (P := Tryd.prog) (w := W) (f := fun x => x) (fun a => a) (fun _ => rfl) Tryd.underlying31 (by kernel_rfl) (OpensL.cons (Opens.slice (w := W) Tryd.underlying29 (by kernel_rfl) (Opens.int (w := W) Tryd.underlying2 (by kernel_rfl))) rfl (OpensL.last (Opens.int (w := W) Tryd.underlying2 (by kernel_rfl)) rfl))).2 _ _ _ _ _ _ _ _ hf0
  obtain ⟨y0_0, y0_1⟩ := x0
  obtain ⟨w0_0, w0_1⟩ := hw0
  simp only [Value.cells] at hK0
  obtain ⟨_, _, hq0_0, ⟨A0_0, c0_0, rfl, hc0_0, hr0_0⟩, rfl⟩ := hK0
  replace hq0_0 : cl0 = [.slice A0_0 y0_0.length c0_0, .int .i64 y0_1] := hq0_0
  subst hq0_0
  have hLv := lv_of hL
  clear hA0 hval0 hsz0
  obtain ⟨k, hk⟩ := Pu.lawW y0_0 y0_1 w0_0 w0_1
  refine (laws_FnExactPatternText.calls k A0_0 c0_0 y0_0 y0_1 true W hr0_0 hc0_0 hLv hk).mono fun e W' ⟨he, bel⟩ => ?_
  subst he
  exact ⟨_, rfl, _, _, _, [], _, [], hW', trodAll_mk1 (shut_bool (show Tryd.prog.underlying 4 = some .bool by kernel_rfl) _), (trodAll_cons_mk (Below.trod laidOut (by kernel_rfl) (of_decide_eq_true (by kernel_rfl)) k0 bel lt0) trodAll_mk0), rfl, bel.frame _, fun h => by cases h⟩
theorem over : Rows.fnExactPatternTextRow.holds Tryd.pinned (OpenSpec.ofChange Rows.fnExactPatternTextSpec) :=
  OpenClaim.holds_of_wide 4 Tryd.f4 rfl rfl rfl rfl rfl rfl rfl ⟨rfl, rfl, rfl, rfl, rfl⟩ rfl rfl rfl rfl rfl (by kernel_rfl) Tryd.func4 (by kernel_rfl)
    (of_decide_eq_true (by kernel_rfl)) (by unfold Func.isWrapper; first | (rw [if_pos (by decide +kernel)]; kernel_rfl) | (rw [if_neg (by decide +kernel)]; exact ⟨rfl, rfl⟩))
    (fun os started H enc _ => lifted os started H enc)
end Go.Proofs.YtnjpjddliaoboaaDoor.fnExactPatternText
namespace Go.Proofs.YtnjpjddliaoboaaDoor
theorem fnExactPatternText_row_holds : Rows.FnExactPatternTextSaid := fnExactPatternText.over
theorem fnExactPatternText_card : Rows.FnExactPatternTextCardSaid :=
  Claim7.holds_tied_plain_at .later [] [.data, .data, .data] true (true, "2a064d3a33534ff611381775d3ad0adf5f6ebb5256fac9abd8c288c98d4b4b04") true
    fnExactPatternText_row_holds (fun _ h => by cases h) (by kernel_rfl) (fun _ h => by cases h) fnExactPatternText_row_tie rfl ⟨rfl, rfl⟩ (by kernel_rfl) rfl
    (fun f fn hf hfn => by
      obtain rfl : f = 4 := Option.some.inj ((show Tryd.prog.funcNamed "loop.example/g01033/laws.FnExactPatternText" = some 4 by kernel_rfl).symm.trans hf) |>.symm
      obtain rfl : fn = Tryd.f4 := (Option.some.inj (Tryd.func4.symm.trans hfn)).symm
      exact ⟨by kernel_rfl, fun j t ht => by
        rw [Tryd.params4] at ht
        have hm : t ∈ [31] := by simpa using Array.mem_of_getElem? ht
        have hall : ([31].all fun u => !Tryd.prog.wantsStandIn u) = true := by kernel_rfl
        exact (show Tryd.prog.wantsStandIn t = false by simpa using List.all_eq_true.1 hall t hm)⟩)
    (by kernel_rfl)
end Go.Proofs.YtnjpjddliaoboaaDoor
end
#print axioms Go.Proofs.YtnjpjddliaoboaaDoor.fnExactPatternText_card
