/- What is proved: fnExactTonesIn_card, without further conditions; this text holds part 3 of 3 of its proof. -/
import Derived.ProofKit
import Derived.LaidMore
import Derived.OpenShut
import Derived.ShutString
import Derived.ChangeOld
import Derived.Below
import Derived.SizedLaws
import Derived.Stop.Joined
import Derived.Lib.LaidTab
import Derived.Deep.Slices
import Derived.Test.YtgklofginkafgaaDoorTie
import Derived.Test.YtgklofginkafgaaDoorCards
import Derived.WalkKit
import Derived.Test.YtgklofginkafgaaDoorQTonesIn1
section
namespace Go.Proofs.YtgklofginkafgaaDoorY
open Go.RowKit Go.ChangeShapes Go.Proofs.YtgklofginkafgaaDoorW.PrintWords
def Opens (P : Program) (w : World) (t : TypeId) {α : Type} (d : Kd α) (wf : α → Prop) : Prop :=
  P.cellsOf t = d.sz ∧ ∀ (H : Type) (enc : TypeId × Value → H) (base : Nat) (sp : Nat → Bool) (held : Bool) (fuel : Nat) (cs : List Value) (x : DataW H × List MemPlace),
    DataW.trod enc P w base sp held fuel t cs = some x → ∃ a, d.K w a cs ∧ wf a
section
variable {P : Program} {w : World}
theorem Opens.int {t : TypeId} {k : IntKind} (ht : P.underlying t = some (.int k)) (hc : P.cellsOf t = 1) : Opens P w t (Kd.int k) (fun n => (Lit.int k n).wf = true) :=
  ⟨hc, fun H enc base sp held fuel cs x h => by
    obtain ⟨n, rfl, _, hw⟩ := DataW.trod_int ht h
    exact ⟨n, rfl, hw⟩⟩
theorem Opens.bool {t : TypeId} (ht : P.underlying t = some .bool) (hc : P.cellsOf t = 1) : Opens P w t Kd.bool (fun _ => True) :=
  ⟨hc, fun H enc base sp held fuel cs x h => by
    obtain ⟨b, rfl, _⟩ := DataW.trod_bool ht h
    exact ⟨b, rfl, trivial⟩⟩
theorem Opens.string {t : TypeId} (ht : P.underlying t = some .string) (hc : P.cellsOf t = 1) : Opens P w t Kd.string (fun s => s.size ≤ 9223372036854775807) :=
  ⟨hc, fun H enc base sp held fuel cs x h => by
    obtain ⟨s, rfl, _, hs⟩ := DataW.trod_string ht h
    exact ⟨s, rfl, hs⟩⟩
theorem choose_list {α : Type} {p : Nat → α → Prop} : ∀ (n : Nat), (∀ i, i < n → ∃ a, p i a) → ∃ l : List α, l.length = n ∧ ∀ i a, l[i]? = some a → p i a
  | 0, _ => ⟨[], rfl, fun i a h => by simp at h⟩
  | n + 1, h => by
    obtain ⟨l, hl, hp⟩ := choose_list n (fun i hi => h i (by omega))
    obtain ⟨a, ha⟩ := h n (by omega)
    refine ⟨l ++ [a], by simp [hl], fun i b hb => ?_⟩
    by_cases hi : i < n
    · rw [List.getElem?_append_left (by omega)] at hb
      exact hp i b hb
    · rw [List.getElem?_append_right (by omega)] at hb
      have h0 : i - l.length = 0 := by
        rcases Nat.eq_zero_or_pos (i - l.length) with h | h
        · exact h
        · rw [List.getElem?_eq_none (by simp; omega)] at hb; cases hb
      rw [h0] at hb
      simp at hb
      subst hb
      have : i = n := by omega
      subst this
      exact ha
theorem Opens.slice {t e : TypeId} {α : Type} {d : Kd α} {wf : α → Prop} (ht : P.underlying t = some (.slice e)) (hc : P.cellsOf t = 1) (o : Opens P w e d wf) :
    Opens P w t (Kd.slice e d) (fun l => l.length ≤ 9223372036854775807 ∧ ∀ a ∈ l, wf a) :=
  ⟨hc, fun H enc base sp held fuel cs x h => by
    rcases Go.Deep.open_slice ht h with ⟨rfl, _⟩ | ⟨a, len, cap, m, n, D, Pl, rfl, _, hl, hm, hmm, _, hx⟩
    · exact ⟨[], ⟨none, 0, rfl, Nat.le_refl _, rfl, by simp, fun h => absurd h (by simp)⟩, by simp, by simp⟩
    · have hle : len ≤ m := by rw [hmm]; split <;> omega
      have hmx : cap ≤ 9223372036854775807 := hm
      obtain ⟨l, hlen, hp⟩ := choose_list (p := fun i y => (∃ c, c.length = d.sz ∧ d.K w y c ∧ ∀ j u, c[j]? = some u → w.cell? (a.add (i * d.sz + j)) = some u) ∧ wf y) len (fun i hi => by
        obtain ⟨cs', h1, h2⟩ := hx i (by omega)
        obtain ⟨y, hK, hw⟩ := o.2 H enc base sp held n cs' _ h2
        obtain ⟨_, hl', hcell⟩ := World.cells?_some h1
        rw [o.1] at hl' hcell
        refine ⟨y, ⟨cs', hl', hK, fun j u hu => ?_⟩, hw⟩
        have hj : j < d.sz := by
          rcases Nat.lt_or_ge j cs'.length with h | h
          · omega
          · rw [List.getElem?_eq_none h] at hu; cases hu
        have := hcell j hj
        rw [add_add] at this
        rw [this, hu])
      refine ⟨l, ⟨some a, cap, by rw [hlen], by omega, ⟨rfl, by omega, fun _ => ⟨a, rfl, fun j y hy => (hp j y hy).1⟩⟩⟩, by omega, fun y hy => ?_⟩
      obtain ⟨i, hi⟩ := List.mem_iff_getElem?.1 hy
      exact (hp i y hi).2⟩
def OpensL (P : Program) (w : World) (fs : List Field) (off : Nat) {α : Type} (d : Kd α) (wf : α → Prop) : Prop :=
  ∀ (H : Type) (enc : TypeId × Value → H) (base : Nat) (sp : Nat → Bool) (held : Bool) (fuel : Nat) (cs : List Value),
    (∀ f ∈ fs, ∃ x, DataW.trod enc P w base sp held fuel f.type ((cs.drop f.offset).take (P.cellsOf f.type)) = some x) → cs.length = off + d.sz → ∃ a, d.K w (a : α) (cs.drop off) ∧ wf a
theorem OpensL.cons {f : Field} {fs : List Field} {off : Nat} {α β : Type} {d : Kd α} {e : Kd β} {wf : α → Prop} {wf' : β → Prop} (o : Opens P w f.type d wf) (ho : f.offset = off) (r : OpensL P w fs (off + d.sz) e wf') :
    OpensL P w (f :: fs) off (Kd.pair d e) (fun p => wf p.1 ∧ wf' p.2) := by
  intro H enc base sp held fuel cs h hl
  have hs : (Kd.pair d e).sz = d.sz + e.sz := rfl
  obtain ⟨x, hx⟩ := h f (List.mem_cons_self ..)
  obtain ⟨b, hb, hwb⟩ := r H enc base sp held fuel cs (fun g hg => h g (List.mem_cons_of_mem _ hg)) (by omega)
  rw [o.1, ho] at hx
  obtain ⟨a, ha, hwa⟩ := o.2 _ _ _ _ _ _ _ _ hx
  refine ⟨(a, b), ⟨(cs.drop off).take d.sz, cs.drop (off + d.sz), ?_, ?_, ?_⟩, hwa, hwb⟩
  all_goals first
    | exact ha
    | exact hb
    | (rw [← List.drop_drop, List.take_append_drop])
theorem Opens.struct {t : TypeId} {fs : Array Field} {α β : Type} {d : Kd α} {wf : α → Prop} {f : β → α} (g : α → β) (hg : ∀ a, f (g a) = a) (ht : P.underlying t = some (.struct fs)) (hc : P.cellsOf t = d.sz) (o : OpensL P w fs.toList 0 d wf) :
    Opens P w t (Kd.iso d f) (fun b => wf (f b)) :=
  ⟨hc, fun H enc base sp held fuel cs x h => by
    obtain ⟨xs, n, _, _, hl, hn, hf⟩ := DataW.trod_struct ht h
    obtain ⟨a, ha, hw⟩ := o H enc base sp held n cs (fun f hm => by
      obtain ⟨i, hi⟩ := List.mem_iff_getElem?.1 hm
      have hi' : fs[i]? = some f := by rw [← hi, Array.getElem?_toList]
      have := hf i f hi'
      have hlt : i < xs.length := by
        rcases Nat.lt_or_ge i fs.size with h | h
        · omega
        · rw [Array.getElem?_eq_none h] at hi'; cases hi'
      rw [List.getElem?_eq_getElem hlt] at this
      exact ⟨_, this⟩) (by rw [hl, hc]; omega)
    have e : f (g a) = a := hg a
    exact ⟨g a, by show d.K w (f (g a)) cs; rw [e]; exact ha, by show wf (f (g a)); rw [e]; exact hw⟩⟩
theorem laid_mem {laid : List (String × DataW Unit)} {n : String} {d : DataW Unit} (hm : (n, d) ∈ laid) : ∀ {ps : List MemPlace}, DataW.LaidVars P w laid ps →
    ∃ g t cs fuel p, P.globalNamed n = some g ∧ (P.globals[g]?).map (·.type) = some t ∧ w.var? P n = some cs ∧ DataW.trod (fun _ => ()) P w 0 (fun _ => true) false fuel t cs.toList = some (d, p) := by
  induction laid with
  | nil => cases hm
  | cons a l ih =>
    obtain ⟨m, e⟩ := a
    rintro ps ⟨g, t, cs, fuel, p, q, h1, h2, h3, h4, h5, _⟩
    rcases List.mem_cons.1 hm with h | h
    · cases h
      exact ⟨g, t, cs, fuel, p, h1, h2, h3, h4⟩
    · exact ih h h5
theorem tab_laid {laid : List (String × DataW Unit)} {name : String} {k : IntKind} {zs : List Int} (hm : (name, Lib.tabData k zs) ∈ laid) {g : Nat} {t e : TypeId} {n : Nat}
    (hg : P.globalNamed name = some g) (hty : (P.globals[g]?).map (·.type) = some t) (ht : P.underlying t = some (.array n e)) (he : P.underlying e = some (.int k)) (hce : P.cellsOf e = 1) (hct : P.cellsOf t = n)
    (h : laidMetH P laid w) (hp : (laid.all fun x => x.2.handleName?.isNone) = true) : Lib.TabIs P w name k zs := by
  rw [MakeChecks.laidMetH_plain _ _ _ hp] at h
  obtain ⟨ps, hv, _⟩ := h
  obtain ⟨g', t', cs, fuel, p, hg', ht', hvar, hd⟩ := laid_mem hm hv
  obtain rfl := Option.some.inj (hg.symm.trans hg')
  obtain rfl := Option.some.inj (hty.symm.trans ht')
  unfold Lib.TabIs
  rw [hvar, ← Lib.cells_of_tab ht he hce hct hd]
end
end Go.Proofs.YtgklofginkafgaaDoorY
end
section
namespace Go.Proofs.YtgklofginkafgaaDoor.Pu
set_option linter.unusedSimpArgs false
set_option linter.unusedVariables false
open Go.RowKit Go.Proofs.YtgklofginkafgaaDoorW.PrintWords
theorem wr {x : Int} (h0 : -9223372036854775808 ≤ x) (h1 : x ≤ 9223372036854775807) : wrap64 x = x := by
  unfold wrap64
  omega
theorem Ev_succ {α : Type} {g : Nat → Option α} {r : α} (h : Ev (fun k => g (k + 1)) r) : Ev g r := Ev.step (fun _ => rfl) h
theorem bytes_ext {a b : ByteArray} (h : a.data.toList = b.data.toList) : a = b := by
  cases a
  cases b
  simp only [ByteArray.mk.injEq]
  exact Array.toList_inj.1 h
theorem size_mk (l : List UInt8) : (⟨l.toArray⟩ : ByteArray).size = l.length := by simp [ByteArray.size]
theorem app_mk (a b : List UInt8) : (⟨a.toArray⟩ : ByteArray) ++ ⟨b.toArray⟩ = ⟨(a ++ b).toArray⟩ := by
  apply bytes_ext
  simp
end Go.Proofs.YtgklofginkafgaaDoor.Pu
end
section
namespace Go.Proofs.YtgklofginkafgaaDoor.Pu
set_option linter.unusedSimpArgs false
set_option linter.unusedVariables false
open Go.RowKit Go.Proofs.YtgklofginkafgaaDoorW.PrintWords Go.Proofs.YtgklofginkafgaaDoor.PA
theorem l00In_eq (a b c : Int) : spec_l00In.f a b c = some (decide (b ≤ a ∧ a ≤ c)) := by
  unfold spec_l00In.f
  by_cases h : a ≥ b
  · rw [if_pos h]
    simp only [ge_iff_le] at h
    simp [h]
  · rw [if_neg h]
    simp only [ge_iff_le] at h
    simp [h]
theorem within_eq (a b c : Int) : impl_within.f a b c = some (decide (b ≤ a ∧ a ≤ c)) := by
  unfold impl_within.f
  by_cases h : a ≥ b
  · rw [if_pos h]
    simp only [ge_iff_le] at h
    simp [h]
  · rw [if_neg h]
    simp only [ge_iff_le] at h
    simp [h]
end Go.Proofs.YtgklofginkafgaaDoor.Pu
end
section
namespace Go.Proofs.YtgklofginkafgaaDoor.Pu
set_option linter.unusedSimpArgs false
set_option linter.unusedVariables false
open Go.RowKit Go.Proofs.YtgklofginkafgaaDoorW.PrintWords Go.Proofs.YtgklofginkafgaaDoor.PA
theorem join_tail (sep : List UInt8) (a : List UInt8) (r : List (List UInt8)) : Lib.join (a :: r) sep = a ++ r.flatMap fun x => sep ++ x := by
  unfold Lib.join
  induction r generalizing a with
  | nil => simp [List.intercalate]
  | cons b r ih =>
    have h := ih b
    simp only [List.intercalate, List.intersperse_cons_cons, List.flatten_cons] at h ⊢
    rw [h]
    simp
theorem rd_mem (l : List Int) (i : Nat) (h : i < l.length) : rd l (i : Int) = l[i] := by
  simp [rd, List.getD_eq_getElem?_getD, List.getElem?_eq_getElem h]
theorem drop_rd (l : List Int) (i : Nat) (h : i < l.length) : l.drop i = rd l (i : Int) :: l.drop (i + 1) := by
  rw [rd_mem l i h]
  exact List.drop_eq_getElem_cons h
end Go.Proofs.YtgklofginkafgaaDoor.Pu
end
section
namespace Go.Proofs.YtgklofginkafgaaDoor.Pu
set_option linter.unusedSimpArgs false
set_option linter.unusedVariables false
open Go.RowKit Go.Proofs.YtgklofginkafgaaDoorW.PrintWords Go.Proofs.YtgklofginkafgaaDoor.PA
def IncS (l : List Int) : Prop := ∀ j : Nat, 0 < j → j < l.length → rd l ((j : Int) - 1) < rd l (j : Int)
def IsScale (l : List Int) : Prop := 5 ≤ l.length ∧ rd l 0 = 0 ∧ IncS l ∧ rd l ((l.length : Int) - 1) < 12
theorem inc_le (l : List Int) (h : IncS l) (d : Nat) : ∀ i : Nat, i + d < l.length → rd l (i : Int) ≤ rd l ((i + d : Nat) : Int) := by
  induction d with
  | zero => intro i _; exact Int.le_refl _
  | succ d ih =>
    intro i hi
    have h1 := ih i (by omega)
    have h2 := h (i + (d + 1)) (by omega) hi
    rw [show ((i + (d + 1) : Nat) : Int) - 1 = ((i + d : Nat) : Int) by omega] at h2
    omega
theorem scale_in {l : List Int} (h : IsScale l) (j : Nat) (hj : j < l.length) : 0 ≤ rd l (j : Int) ∧ rd l (j : Int) ≤ 11 := by
  obtain ⟨h1, h2, h3, h4⟩ := h
  have a := inc_le l h3 j 0 (by omega)
  have b := inc_le l h3 (l.length - 1 - j) j (by omega)
  rw [show ((0 + j : Nat) : Int) = (j : Int) by omega, show ((0 : Nat) : Int) = 0 from rfl] at a
  rw [show ((j + (l.length - 1 - j) : Nat) : Int) = (l.length : Int) - 1 by omega] at b
  omega
theorem l00Rises_l0 (l : List Int) (hl : l.length ≤ 1048576) (d : Nat) : ∀ i : Nat, i + d = l.length →
    ∃ b : Bool, Ev (fun k => spec_l00Rises.l0 k l 0 11 (i : Int)) b ∧ (b = true ↔ ∀ j : Nat, i ≤ j → j < l.length → (0 ≤ rd l (j : Int) ∧ rd l (j : Int) ≤ 11) ∧ (0 < j → rd l ((j : Int) - 1) < rd l (j : Int))) := by
  induction d with
  | zero =>
    intro i hi
    refine ⟨true, ?_, ⟨fun _ j h1 h2 => by omega, fun _ => rfl⟩⟩
    apply Ev_succ
    simp only [spec_l00Rises.l0, if_neg (show ¬ ((i : Int) < (l.length : Int)) by omega)]
    exact Ev.now _
  | succ d ih =>
    intro i hi
    obtain ⟨b, hb, hiff⟩ := ih (i + 1) (by omega)
    rw [show ((i + 1 : Nat) : Int) = (i : Int) + 1 by omega] at hb
    by_cases h1 : 0 ≤ rd l (i : Int) ∧ rd l (i : Int) ≤ 11
    · by_cases h2 : 0 < i
      · by_cases h3 : rd l ((i : Int) - 1) ≥ rd l (i : Int)
        · refine ⟨false, ?_, ⟨fun h => absurd h (by decide), fun h => by have := (h i (by omega) (by omega)).2 h2; omega⟩⟩
          apply Ev_succ
          simp only [spec_l00Rises.l0, l00In_eq, if_pos (show (i : Int) < (l.length : Int) by omega), if_pos (show 0 ≤ (i : Int) by omega), Option.bind_some, decide_eq_true h1, if_true, if_pos (show (i : Int) > 0 by omega), wr (show -9223372036854775808 ≤ (i : Int) - 1 by omega) (by omega), if_pos (show 0 ≤ (i : Int) - 1 by omega), if_pos (show (i : Int) - 1 < (l.length : Int) by omega), if_pos h3]
          exact Ev.now _
        · refine ⟨b, ?_, ?_⟩
          · apply Ev_succ
            simp only [spec_l00Rises.l0, l00In_eq, if_pos (show (i : Int) < (l.length : Int) by omega), if_pos (show 0 ≤ (i : Int) by omega), Option.bind_some, decide_eq_true h1, if_true, if_pos (show (i : Int) > 0 by omega), wr (show -9223372036854775808 ≤ (i : Int) - 1 by omega) (by omega), wr (show -9223372036854775808 ≤ (i : Int) + 1 by omega) (by omega), if_pos (show 0 ≤ (i : Int) - 1 by omega), if_pos (show (i : Int) - 1 < (l.length : Int) by omega), if_neg h3]
            exact hb
          · rw [hiff]
            refine ⟨fun h j hj hl2 => ?_, fun h j hj hl2 => h j (by omega) hl2⟩
            by_cases e : j = i
            · subst e; exact ⟨h1, fun _ => by omega⟩
            · exact h j (by omega) hl2
      · refine ⟨b, ?_, ?_⟩
        · apply Ev_succ
          simp only [spec_l00Rises.l0, l00In_eq, if_pos (show (i : Int) < (l.length : Int) by omega), if_pos (show 0 ≤ (i : Int) by omega), Option.bind_some, decide_eq_true h1, if_true, if_neg (show ¬ (i : Int) > 0 by omega), wr (show -9223372036854775808 ≤ (i : Int) + 1 by omega) (by omega)]
          exact hb
        · rw [hiff]
          refine ⟨fun h j hj hl2 => ?_, fun h j hj hl2 => h j (by omega) hl2⟩
          by_cases e : j = i
          · subst e; exact ⟨h1, fun _ => by omega⟩
          · exact h j (by omega) hl2
    · refine ⟨false, ?_, ⟨fun h => absurd h (by decide), fun h => absurd (h i (by omega) (by omega)).1 h1⟩⟩
      apply Ev_succ
      simp only [spec_l00Rises.l0, l00In_eq, if_pos (show (i : Int) < (l.length : Int) by omega), if_pos (show 0 ≤ (i : Int) by omega), Option.bind_some, decide_eq_false h1, Bool.false_eq_true, if_false]
      exact Ev.now _
theorem l03Scale_eq (l : List Int) (hl : l.length ≤ 1048576) : ∃ b : Bool, Ev (fun k => spec_l03Scale.f k l) b ∧ (b = true ↔ IsScale l) := by
  unfold spec_l03Scale.f
  by_cases h5 : (l.length : Int) ≥ 5
  · obtain ⟨b, hb, hiff⟩ := l00Rises_l0 l hl l.length 0 (by omega)
    have hb' : Ev (fun k => spec_l00Rises.f k l 0 11) b := hb
    refine ⟨b && (rd l 0 == 0), ?_, ?_⟩
    · simp only [if_pos h5]
      refine Ev.bind hb' ?_
      cases b with
      | true => simp only [if_true, if_pos (show 0 < (l.length : Int) by omega), Bool.true_and]; exact Ev.now _
      | false => simp only [Bool.false_eq_true, if_false, Bool.false_and]; exact Ev.now _
    · rw [Bool.and_eq_true, hiff, beq_iff_eq]
      constructor
      · rintro ⟨h1, h2⟩
        refine ⟨by omega, h2, fun j h0 hj => (h1 j (by omega) hj).2 h0, ?_⟩
        have := (h1 (l.length - 1) (by omega) (by omega)).1.2
        rw [show ((l.length - 1 : Nat) : Int) = (l.length : Int) - 1 by omega] at this
        omega
      · intro h
        exact ⟨fun j _ hj => ⟨scale_in h j hj, fun h0 => h.2.2.1 j h0 hj⟩, h.2.1⟩
  · refine ⟨false, ?_, ⟨fun h => absurd h (by decide), fun h => absurd h.1 (by omega)⟩⟩
    simp only [if_neg h5]
    exact Ev.now _
theorem increasing_l0 (l : List Int) (hl : l.length ≤ 1048576) (d : Nat) : ∀ i : Nat, 0 < i → i + d = l.length →
    ∃ b : Bool, Ev (fun k => impl_increasing.l0 k l (i : Int)) b ∧ (b = true ↔ ∀ j : Nat, i ≤ j → j < l.length → rd l ((j : Int) - 1) < rd l (j : Int)) := by
  induction d with
  | zero =>
    intro i h0 hi
    refine ⟨true, ?_, ⟨fun _ j h1 h2 => by omega, fun _ => rfl⟩⟩
    apply Ev_succ
    simp only [impl_increasing.l0, if_neg (show ¬ ((i : Int) < (l.length : Int)) by omega)]
    exact Ev.now _
  | succ d ih =>
    intro i h0 hi
    obtain ⟨b, hb, hiff⟩ := ih (i + 1) (by omega) (by omega)
    rw [show ((i + 1 : Nat) : Int) = (i : Int) + 1 by omega] at hb
    by_cases h3 : rd l (i : Int) ≤ rd l ((i : Int) - 1)
    · refine ⟨false, ?_, ⟨fun h => absurd h (by decide), fun h => by have := h i (by omega) (by omega); omega⟩⟩
      apply Ev_succ
      simp only [impl_increasing.l0, if_pos (show (i : Int) < (l.length : Int) by omega), if_pos (show 0 ≤ (i : Int) by omega), wr (show -9223372036854775808 ≤ (i : Int) - 1 by omega) (by omega), if_pos (show 0 ≤ (i : Int) - 1 by omega), if_pos (show (i : Int) - 1 < (l.length : Int) by omega), if_pos h3]
      exact Ev.now _
    · refine ⟨b, ?_, ?_⟩
      · apply Ev_succ
        simp only [impl_increasing.l0, if_pos (show (i : Int) < (l.length : Int) by omega), if_pos (show 0 ≤ (i : Int) by omega), wr (show -9223372036854775808 ≤ (i : Int) - 1 by omega) (by omega), wr (show -9223372036854775808 ≤ (i : Int) + 1 by omega) (by omega), if_pos (show 0 ≤ (i : Int) - 1 by omega), if_pos (show (i : Int) - 1 < (l.length : Int) by omega), if_neg h3]
        exact hb
      · rw [hiff]
        refine ⟨fun h j hj hl2 => ?_, fun h j hj hl2 => h j (by omega) hl2⟩
        by_cases e : j = i
        · subst e; omega
        · exact h j (by omega) hl2
theorem ValidScale_eq (l : List Int) (hl : l.length ≤ 1048576) : ∃ b : Bool, Ev (fun k => impl_ValidScale.f k l) b ∧ (b = true ↔ IsScale l) := by
  unfold impl_ValidScale.f
  by_cases h5 : (l.length : Int) ≥ 5
  · by_cases h0 : rd l 0 = 0
    · obtain ⟨b, hb, hiff⟩ := increasing_l0 l hl (l.length - 1) 1 (by omega) (by omega)
      have hb' : Ev (fun k => impl_increasing.f k l) b := hb
      refine ⟨b && decide (rd l ((l.length : Int) - 1) < 12), ?_, ?_⟩
      · simp only [if_pos h5, if_pos (show 0 < (l.length : Int) by omega), if_pos h0]
        refine Ev.bind hb' ?_
        cases b with
        | true => simp only [if_true, wr (show -9223372036854775808 ≤ (l.length : Int) - 1 by omega) (by omega), if_pos (show 0 ≤ (l.length : Int) - 1 by omega), if_pos (show (l.length : Int) - 1 < (l.length : Int) by omega), Bool.true_and]; exact Ev.now _
        | false => simp only [Bool.false_eq_true, if_false, Bool.false_and]; exact Ev.now _
      · rw [Bool.and_eq_true, hiff, decide_eq_true_eq]
        constructor
        · rintro ⟨h1, h2⟩
          exact ⟨by omega, h0, fun j hj hj2 => h1 j (by omega) hj2, h2⟩
        · intro h
          exact ⟨fun j hj hj2 => h.2.2.1 j (by omega) hj2, h.2.2.2⟩
    · refine ⟨false, ?_, ⟨fun h => absurd h (by decide), fun h => absurd h.2.1 h0⟩⟩
      simp only [if_pos h5, if_pos (show 0 < (l.length : Int) by omega), if_neg h0]
      exact Ev.now _
  · refine ⟨false, ?_, ⟨fun h => absurd h (by decide), fun h => absurd h.1 (by omega)⟩⟩
    simp only [if_neg h5]
    exact Ev.now _
end Go.Proofs.YtgklofginkafgaaDoor.Pu
end
section
namespace Go.Proofs.YtgklofginkafgaaDoor.Pu
set_option linter.unusedSimpArgs false
set_option linter.unusedVariables false
open Go.RowKit Go.Proofs.YtgklofginkafgaaDoorW.PrintWords Go.Proofs.YtgklofginkafgaaDoor.PA
theorem set_copy {α : Type} (l : List α) (z : α) (i d : Nat) (h : i + (d + 1) = l.length) (x : α) (hx : l[i]? = some x) :
    (l.take i ++ List.replicate (d + 1) z).set i x = l.take (i + 1) ++ List.replicate d z := by
  have hlt : i < l.length := by omega
  have hl : (l.take i).length = i := by rw [List.length_take]; omega
  rw [List.set_append_right _ _ (by omega), hl, Nat.sub_self, List.replicate_succ, List.set_cons_zero, List.take_succ_eq_append_getElem hlt]
  rw [List.getElem?_eq_getElem hlt] at hx
  obtain rfl := Option.some.inj hx
  rw [List.append_assoc]
  rfl
theorem toInt64S_l0 (l : List Int) (hl : l.length ≤ 1048576) (d : Nat) : ∀ i : Nat, i + d = l.length → Ev (fun k => laws_toInt64S.l0 k l (l.take i ++ List.replicate d 0) (i : Int)) l := by
  induction d with
  | zero =>
    intro i hi
    apply Ev_succ
    simp only [laws_toInt64S.l0, if_neg (show ¬ ((i : Int) < (l.length : Int)) by omega), List.take_of_length_le (show l.length ≤ i by omega), List.replicate_zero, List.append_nil]
    exact Ev.now _
  | succ d ih =>
    intro i hi
    have hlt : i < l.length := by omega
    have hlen : (l.take i ++ List.replicate (d + 1) (0 : Int)).length = l.length := by
      rw [List.length_append, List.length_take, List.length_replicate]
      omega
    have hrd : rd l (i : Int) = l[i] := by simp [rd, List.getD_eq_getElem?_getD, List.getElem?_eq_getElem hlt]
    apply Ev_succ
    simp only [laws_toInt64S.l0, hlen, if_pos (show (i : Int) < (l.length : Int) by omega), if_pos (show 0 ≤ (i : Int) by omega), Int.toNat_natCast, wr (show -9223372036854775808 ≤ (i : Int) + 1 by omega) (by omega)]
    rw [set_copy l 0 i d hi (rd l (i : Int)) (by rw [hrd]; exact List.getElem?_eq_getElem hlt)]
    have h2 := ih (i + 1) (by omega)
    rwa [show ((i + 1 : Nat) : Int) = (i : Int) + 1 by omega] at h2
theorem toInt64S_eq (l : List Int) (hl : l.length ≤ 1048576) : Ev (fun k => laws_toInt64S.f k l) l := by
  unfold laws_toInt64S.f
  simp only [if_pos (show 0 ≤ (l.length : Int) by omega), Int.toNat_natCast, if_pos (show l.length ≤ 35184372088832 by omega)]
  exact toInt64S_l0 l hl l.length 0 (by omega)
theorem eqInt64S_l0 (l : List Int) (hl : l.length ≤ 1048576) (d : Nat) : ∀ i : Nat, i + d = l.length → Ev (fun k => laws_eqInt64S.l0 k l l (i : Int)) true := by
  induction d with
  | zero =>
    intro i hi
    apply Ev_succ
    simp only [laws_eqInt64S.l0, if_neg (show ¬ ((i : Int) < (l.length : Int)) by omega)]
    exact Ev.now _
  | succ d ih =>
    intro i hi
    apply Ev_succ
    simp only [laws_eqInt64S.l0, if_pos (show (i : Int) < (l.length : Int) by omega), if_pos (show 0 ≤ (i : Int) by omega), if_true, wr (show -9223372036854775808 ≤ (i : Int) + 1 by omega) (by omega)]
    have h2 := ih (i + 1) (by omega)
    rwa [show ((i + 1 : Nat) : Int) = (i : Int) + 1 by omega] at h2
theorem eqInt64S_eq (l : List Int) (hl : l.length ≤ 1048576) : Ev (fun k => laws_eqInt64S.f k l l) true := by
  unfold laws_eqInt64S.f
  simp only [if_true]
  exact eqInt64S_l0 l hl l.length 0 (by omega)
end Go.Proofs.YtgklofginkafgaaDoor.Pu
end
section
namespace Go.Proofs.YtgklofginkafgaaDoor.Pu
set_option linter.unusedSimpArgs false
set_option linter.unusedVariables false
open Go.RowKit Go.Proofs.YtgklofginkafgaaDoorW.PrintWords Go.Proofs.YtgklofginkafgaaDoor.PA
theorem octB_size (o : Int) (h : o = -1 ∨ o = 0 ∨ o = 1) : (octB o).size ≤ 1 := by rcases h with rfl | rfl | rfl <;> decide
theorem markB_size (o : Int) (h : o = -1 ∨ o = 0 ∨ o = 1) : (markB o).size ≤ 1 := by rcases h with rfl | rfl | rfl <;> decide
theorem pitchB_size (s k p : Int) (k0 : 0 ≤ k) (k1 : k ≤ 11) (p0 : -12 ≤ p) (p1 : p ≤ 23) : (pitchB s k p).size ≤ 200 := by
  have a := (letterB_cell ((p + k) % 12) (by omega) (by omega)).1
  have b := decB_size ((p + k) / 12 + 4) (by omega) (by omega)
  have c := (numberB_cell (p % 12) (by omega) (by omega)).1
  have d := decB_size (p + k + 60) (by omega) (by omega)
  have e := toneB_size (p % 12) (by omega) (by omega)
  have f := octB_size (p / 12) (by omega)
  have g := markB_size (p / 12) (by omega)
  unfold pitchB
  split
  · rw [ByteArray.size_append]; omega
  · split
    · rw [ByteArray.size_append]; omega
    · split
      · omega
      · rw [ByteArray.size_append]; omega
def pT (s k p : Int) : List UInt8 := (pitchB s k p).data.toList
theorem pT_mk (s k p : Int) : pitchB s k p = ⟨(pT s k p).toArray⟩ := by
  apply bytes_ext
  simp [pT]
theorem pT_length (s k p : Int) (k0 : 0 ≤ k) (k1 : k ≤ 11) (p0 : -12 ≤ p) (p1 : p ≤ 23) : (pT s k p).length ≤ 200 := by
  have := pitchB_size s k p k0 k1 p0 p1
  rw [pT_mk, size_mk] at this
  exact this
def keyOk (s k : Int) : Bool := decide (1 ≤ s ∧ s ≤ 4) && decide (0 ≤ k ∧ k ≤ 11)
theorem keyOk_wf {s k : Int} (h : keyOk s k = true) : 1 ≤ s ∧ s ≤ 4 ∧ 0 ≤ k ∧ k ≤ 11 := by
  simp only [keyOk, Bool.and_eq_true, decide_eq_true_eq] at h
  exact ⟨h.1.1, h.1.2, h.2.1, h.2.2⟩
theorem l26Script_eq (s k : Int) : spec_l26Script.f s k = some (keyOk s k) := by
  unfold spec_l26Script.f keyOk
  simp only [l00In_eq, Option.bind_some]
  by_cases h : 1 ≤ s ∧ s ≤ 4
  · simp only [decide_eq_true h, if_true, Bool.true_and]
  · simp only [decide_eq_false h, Bool.false_eq_true, if_false, Bool.false_and]
theorem keyOk_eq (s k : Int) : impl_keyOk.f s k = some (keyOk s k) := by
  unfold impl_keyOk.f keyOk
  simp only [within_eq, Option.bind_some]
  by_cases h : 1 ≤ s ∧ s ≤ 4
  · simp only [decide_eq_true h, if_true, Bool.true_and]
  · simp only [decide_eq_false h, Bool.false_eq_true, if_false, Bool.false_and]
theorem sPitch_eq (s k p : Int) (h : keyOk s k = true) (p0 : -12 ≤ p) (p1 : p ≤ 23) : spec_l26Pitch.f s k p = some ⟨(pT s k p).toArray⟩ := by
  obtain ⟨a, b, c, d⟩ := keyOk_wf h
  unfold spec_l26Pitch.f
  rw [if_pos ⟨a, b, c, d, p0, p1⟩, pT_mk]
theorem pitchIn_eq (s k p : Int) (h : keyOk s k = true) (p0 : -12 ≤ p) (p1 : p ≤ 23) : impl_pitchIn.f s k p = some ⟨(pT s k p).toArray⟩ := by
  obtain ⟨a, b, c, d⟩ := keyOk_wf h
  unfold impl_pitchIn.f
  rw [if_pos ⟨c, d, p0, p1⟩, pT_mk]
def tailP (s k : Int) (l : List Int) : List UInt8 := l.flatMap fun n => 32 :: pT s k n
def tonesT (s k : Int) : List Int → List UInt8
  | [] => []
  | a :: r => pT s k a ++ tailP s k r
theorem join_tones (s k : Int) (a : Int) (r : List Int) : Lib.join ((a :: r).map (pT s k)) [32] = tonesT s k (a :: r) := by
  rw [List.map_cons, join_tail]
  simp [tonesT, tailP, List.flatMap_map]
theorem tailP_length (s k : Int) (k0 : 0 ≤ k) (k1 : k ≤ 11) (l : List Int) (hw : ∀ x ∈ l, -12 ≤ x ∧ x ≤ 23) : (tailP s k l).length ≤ 201 * l.length := by
  induction l with
  | nil => simp [tailP]
  | cons a r ih =>
    have h1 := pT_length s k a k0 k1 (hw a (by simp)).1 (hw a (by simp)).2
    have h2 := ih (fun x hx => hw x (by simp [hx]))
    unfold tailP at h2 ⊢
    rw [List.flatMap_cons, List.length_append, List.length_cons, List.length_cons]
    omega
theorem tonesT_length (s k : Int) (k0 : 0 ≤ k) (k1 : k ≤ 11) (l : List Int) (hw : ∀ x ∈ l, -12 ≤ x ∧ x ≤ 23) : (tonesT s k l).length ≤ 201 * l.length := by
  cases l with
  | nil => simp [tonesT]
  | cons a r =>
    have h1 := pT_length s k a k0 k1 (hw a (by simp)).1 (hw a (by simp)).2
    have h2 := tailP_length s k k0 k1 r (fun x hx => hw x (by simp [hx]))
    simp only [tonesT, List.length_append, List.length_cons]
    omega
theorem sTonesIn_l0 (s k0 : Int) (hk : keyOk s k0 = true) (l : List Int) (hl : l.length ≤ 1048576) (hw : ∀ x ∈ l, -12 ≤ x ∧ x ≤ 23) (d : Nat) :
    ∀ (i : Nat) (acc : List UInt8), i + d = l.length → 0 < i → acc.length + 201 * d ≤ 1000000000 → Ev (fun k => spec_TonesIn.l0 k s k0 l ⟨acc.toArray⟩ (i : Int)) (⟨(acc ++ tailP s k0 (l.drop i)).toArray⟩, 0) := by
  obtain ⟨_, _, c, e⟩ := keyOk_wf hk
  induction d with
  | zero =>
    intro i acc hi _ _
    apply Ev_succ
    simp only [spec_TonesIn.l0, if_neg (show ¬ ((i : Int) < (l.length : Int)) by omega), show l.drop i = [] from List.drop_of_length_le (by omega)]
    simp only [tailP, List.flatMap_nil, List.append_nil]
    exact Ev.now _
  | succ d ih =>
    intro i acc hi h0 ha
    have hlt : i < l.length := by omega
    have hx := hw (rd l (i : Int)) (by rw [rd_mem l i hlt]; exact List.getElem_mem hlt)
    have hs := pT_length s k0 _ c e hx.1 hx.2
    have e1 : (⟨acc.toArray⟩ : ByteArray) ++ ⟨#[32]⟩ = ⟨(acc ++ [32]).toArray⟩ := app_mk acc [32]
    apply Ev_succ
    simp only [spec_TonesIn.l0, if_pos (show (i : Int) < (l.length : Int) by omega), if_pos (show (i : Int) > 0 by omega), size_mk, if_pos (show acc.length + 1 ≤ 9223372036854775807 by omega), if_pos (show 0 ≤ (i : Int) by omega), e1, wr (show -9223372036854775808 ≤ (i : Int) + 1 by omega) (by omega), sPitch_eq s k0 _ hk hx.1 hx.2, Option.bind_some, List.length_append, List.length_singleton, if_pos (show acc.length + 1 + (pT s k0 (rd l (i : Int))).length ≤ 9223372036854775807 by omega), app_mk]
    have h2 := ih (i + 1) ((acc ++ [32]) ++ pT s k0 (rd l (i : Int))) (by omega) (by omega) (by simp only [List.length_append, List.length_singleton]; omega)
    rw [drop_rd l i hlt]
    rw [show ((i + 1 : Nat) : Int) = (i : Int) + 1 by omega] at h2
    have e3 : (acc ++ [32]) ++ pT s k0 (rd l (i : Int)) ++ tailP s k0 (l.drop (i + 1)) = acc ++ tailP s k0 (rd l (i : Int) :: l.drop (i + 1)) := by
      simp [tailP]
    rwa [e3] at h2
theorem sTonesIn_run (s k0 : Int) (hk : keyOk s k0 = true) (l : List Int) (hl : l.length ≤ 1048576) (hw : ∀ x ∈ l, -12 ≤ x ∧ x ≤ 23) : Ev (fun k => spec_TonesIn.l0 k s k0 l ⟨#[]⟩ 0) (⟨(tonesT s k0 l).toArray⟩, 0) := by
  obtain ⟨_, _, c, e⟩ := keyOk_wf hk
  cases l with
  | nil =>
    apply Ev_succ
    simp only [spec_TonesIn.l0, List.length_nil, if_neg (show ¬ ((0 : Int) < ((0 : Nat) : Int)) by omega)]
    exact Ev.now _
  | cons a r =>
    have hx := hw a (by simp)
    have hs := pT_length s k0 a c e hx.1 hx.2
    have hlen : (a :: r).length = r.length + 1 := rfl
    apply Ev_succ
    have e0 : rd (a :: r) 0 = a := rfl
    have e1 : (⟨#[]⟩ : ByteArray) = ⟨([] : List UInt8).toArray⟩ := rfl
    simp only [spec_TonesIn.l0, if_pos (show (0 : Int) < ((a :: r).length : Int) by omega), if_neg (show ¬ ((0 : Int) > 0) by omega), if_pos (show (0 : Int) ≤ 0 by omega), e0, wr (show -9223372036854775808 ≤ (0 : Int) + 1 by omega) (by omega), sPitch_eq s k0 _ hk hx.1 hx.2, Option.bind_some, e1, size_mk, List.length_nil, if_pos (show 0 + (pT s k0 a).length ≤ 9223372036854775807 by omega), app_mk, List.nil_append]
    exact sTonesIn_l0 s k0 hk (a :: r) hl hw r.length 1 (pT s k0 a) (by omega) (by omega) (by omega)
theorem TonesIn_l0 (s k0 : Int) (hk : keyOk s k0 = true) (l : List Int) (hl : l.length ≤ 1048576) (hne : l ≠ []) (hw : ∀ x ∈ l, -12 ≤ x ∧ x ≤ 23) (d : Nat) :
    ∀ i : Nat, i + d = l.length → Ev (fun k => impl_TonesIn.l0 k s k0 ((l.take i).map fun n => ⟨(pT s k0 n).toArray⟩) l (l.length : Int) (i : Int)) (⟨(tonesT s k0 l).toArray⟩, 0) := by
  obtain ⟨_, _, c, e⟩ := keyOk_wf hk
  induction d with
  | zero =>
    intro i hi
    apply Ev_succ
    simp only [impl_TonesIn.l0, if_neg (show ¬ ((i : Int) < (l.length : Int)) by omega), List.take_of_length_le (show l.length ≤ i by omega)]
    obtain ⟨a, r, rfl⟩ := List.exists_cons_of_ne_nil hne
    have e : Lib.join (((a :: r).map fun n => (⟨(pT s k0 n).toArray⟩ : ByteArray)).map (·.data.toList)) (⟨#[32]⟩ : ByteArray).data.toList = tonesT s k0 (a :: r) := by
      rw [← join_tones, List.map_map]
      rfl
    have hb := tonesT_length s k0 (by assumption) (by assumption) (a :: r) hw
    unfold strings_Join.f
    rw [e]
    simp only [if_pos (show (tonesT s k0 (a :: r)).length ≤ 140737488355328 ∧ ((a :: r).map fun n => (⟨(pT s k0 n).toArray⟩ : ByteArray)).length ≤ 140737488355328 from ⟨by omega, by rw [List.length_map]; omega⟩), Option.bind_some]
    exact Ev.now _
  | succ d ih =>
    intro i hi
    have hlt : i < l.length := by omega
    have hx := hw (rd l (i : Int)) (by rw [rd_mem l i hlt]; exact List.getElem_mem hlt)
    apply Ev_succ
    simp only [impl_TonesIn.l0, if_pos (show (i : Int) < (l.length : Int) by omega), if_pos (show 0 ≤ (i : Int) by omega), pitchIn_eq s k0 _ hk hx.1 hx.2, Option.bind_some, wr (show -9223372036854775808 ≤ (i : Int) + 1 by omega) (by omega)]
    simp only [if_pos (show ((l.take i).map fun n => (⟨(pT s k0 n).toArray⟩ : ByteArray)).length < 8796093022208 by rw [List.length_map, List.length_take]; omega)]
    have h2 := ih (i + 1) (by omega)
    rw [show ((i + 1 : Nat) : Int) = (i : Int) + 1 by omega, List.take_succ_eq_append_getElem hlt, List.map_append, ← rd_mem l i hlt] at h2
    exact h2
theorem tones_same (s k0 : Int) (l : List Int) (hl : l.length ≤ 1048576) : ∃ r : ByteArray × Int, Ev (fun k => spec_TonesIn.f k s k0 l) r ∧ Ev (fun k => impl_TonesIn.f k s k0 l) r := by
  unfold spec_TonesIn.f impl_TonesIn.f
  simp only [l26Script_eq, keyOk_eq, Option.bind_some]
  cases hk : keyOk s k0 with
  | false =>
    simp only [Bool.false_eq_true, if_false]
    exact ⟨_, Ev.now _, Ev.now _⟩
  | true =>
    simp only [if_true]
    obtain ⟨b1, e1, i1⟩ := l03Scale_eq l hl
    obtain ⟨b2, e2, i2⟩ := ValidScale_eq l hl
    have hbb : b1 = b2 := by
      rw [Bool.eq_iff_iff, i1, i2]
    subst hbb
    cases b1 with
    | false =>
      refine ⟨(⟨#[]⟩, 1), Ev.bind e1 ?_, Ev.bind e2 ?_⟩
      · simp only [Bool.false_eq_true, if_false]
        exact Ev.now _
      · simp only [Bool.false_eq_true, if_false]
        exact Ev.now _
    | true =>
      have hs := i1.1 rfl
      have hw : ∀ x ∈ l, -12 ≤ x ∧ x ≤ 23 := fun x hx => by
        obtain ⟨j, hj, rfl⟩ := List.mem_iff_getElem.1 hx
        have := scale_in hs j hj
        rw [rd_mem l j hj] at this
        omega
      have hne : l ≠ [] := fun e => by
        have := hs.1
        rw [e] at this
        simp at this
      refine ⟨(⟨(tonesT s k0 l).toArray⟩, 0), Ev.bind e1 ?_, Ev.bind e2 ?_⟩
      · simp only [if_true]
        exact sTonesIn_run s k0 hk l hl hw
      · simp only [if_true]
        exact TonesIn_l0 s k0 hk l hl hne hw l.length 0 (by omega)
theorem lawW (s k0 : Int) (l : List Int) (_ : (Lit.int .i64 s).wf = true) (_ : (Lit.int .i64 k0).wf = true) (hl : l.length ≤ 9223372036854775807 ∧ ∀ a ∈ l, (Lit.int .i64 a).wf = true) : ∃ n, laws_FnExactTonesIn.f n s k0 l = some true := by
  have hz : Ev (fun n => laws_FnExactTonesIn.f n s k0 l) true := by
    unfold laws_FnExactTonesIn.f
    by_cases h1 : (l.length : Int) > 1048576
    · simp only [if_pos h1]
      exact Ev.now _
    · simp only [if_neg h1]
      have hlen : l.length ≤ 1048576 := by omega
      obtain ⟨r, hs, hi⟩ := tones_same s k0 l hlen
      refine Ev.bind (toInt64S_eq l hlen) ?_
      refine Ev.bind hs ?_
      refine Ev.bind (toInt64S_eq l hlen) ?_
      refine Ev.bind hi ?_
      simp only [if_true, bne_self_eq_false]
      apply Ev_succ
      simp only [laws_FnExactTonesIn.j0, Bool.false_eq_true, if_false]
      refine Ev.bind (toInt64S_eq l hlen) ?_
      refine Ev.bind (eqInt64S_eq l hlen) ?_
      simp only [if_true]
      exact Ev.now _
  exact hz.rounds
end Go.Proofs.YtgklofginkafgaaDoor.Pu
end
section
namespace Go.Proofs.YtgklofginkafgaaDoor.fnExactTonesIn
open Go.ChangeShapes Go.WideShapes Go.ChangeAt Go.RowKit Go.Proofs.YtgklofginkafgaaDoorY Go.Proofs.YtgklofginkafgaaDoorW.PrintWords Go.Proofs.YtgklofginkafgaaDoor.PA
open Go.ChangeMaps (open_string shut_string)
set_option linter.unusedVariables false
theorem own : ownKnob Tryd.prog.godebug = none := by kernel_rfl
theorem laidOut : laidOutB Tryd.prog = true := by kernel_rfl
def laid : List (String × DataW Unit) := [("math/bits.deBruijn32tab", Rows.laid_math_bits_deBruijn32tab), ("math/bits.deBruijn64tab", Rows.laid_math_bits_deBruijn64tab), ("internal/strconv.uint64pow10", Rows.laid_internal_strconv_uint64pow10)]
theorem door_met (os : Os) (args : Array Value) : laidMetH Tryd.prog laid ((World.doorLaid Tryd.prog 400 os).forCall (fun _ _ => 0) ⟨#[], args, []⟩).memory :=
  laidMetH_of_parts3 (fuel := 8) (laidMet_of_run' 8 (by kernel_rfl) (by kernel_rfl)) (by kernel_rfl) (by kernel_rfl)
theorem lv_of {W : World} (h : laidMetH Tryd.prog laid W) : Lv W :=
  ⟨tab_laid (zs := Lib.pow10Tab) (n := 20) (by rw [show (Lib.tabData .u64 Lib.pow10Tab : DataW Unit) = Rows.laid_internal_strconv_uint64pow10 by kernel_rfl]; simp [laid]) (show Tryd.prog.globalNamed "internal/strconv.uint64pow10" = some 1 by kernel_rfl) (by kernel_rfl) Tryd.underlying118 Tryd.underlying99 (by kernel_rfl) (by kernel_rfl) h (by kernel_rfl)⟩
set_option maxRecDepth 100000 in
theorem lifted (os : Os) (started : os.Started) (H : Type) (enc : TypeId × Value → H) :
    ReturnsInHanded {} Tryd.checked os 3 .any (fun w args => (Rows.fnExactTonesInSpec.pre enc Tryd.prog Tryd.f3 [] false w args ∧ laidMetH Tryd.prog laid w) ∧ sizedMet enc Tryd.prog Tryd.f3 (OpenSpec.ofChange Rows.fnExactTonesInSpec) false w args)
      (Rows.fnExactTonesInSpec.post enc Tryd.prog Tryd.f3 false true false false) := by
  refine returnsInHanded_of_change_and (C := Tryd.checked) (X := fun w _ => laidMetH Tryd.prog laid w) (fun _ _ _ hh h => h.of_heap hh) own started (by kernel_rfl) Tryd.func3
    (ChangeSpec.witness_shaped (enc := enc) (C := Tryd.checked) (os := os) (X := fun w _ => laidMetH Tryd.prog laid w) false (World.doorLaid Tryd.prog 400 os) #[.int .i64 0, .int .i64 0, .slice none 0 0] 8 rfl (World.shaped_of_RefB (by kernel_rfl) (by kernel_rfl)) (by kernel_rfl) (by kernel_rfl) (by kernel_rfl) (door_met os _)) ?_
  intro W base args ds gs before hval0 hW _ hsz0 hL _
  have hval : ∀ (j : Nat) t v, Tryd.f3.params[j]? = some t → args[j]? = some v → Value.okWide Tryd.prog W .any base t v := hval0
  have hW' := hW
  obtain ⟨p, q, hA0, hV, rfl, hfz, hnd⟩ := hW
  have hA : DataW.TrodAll enc Tryd.prog W 0 (fun _ => true) true Tryd.f3.params.toList args.toList ds p := hA0
  rw [Tryd.params3] at hA hval
  obtain ⟨v0, vs0, d0, ds0, p0, q0, hargs, rfl, rfl, h0, r0⟩ := trodAll_cons hA
  obtain ⟨v1, vs1, d1, ds1, p1, q1, rfl, rfl, rfl, h1, r1⟩ := trodAll_cons r0
  obtain ⟨v2, vs2, d2, ds2, p2, q2, rfl, rfl, rfl, h2, r2⟩ := trodAll_cons r1
  obtain ⟨rfl, rfl, rfl⟩ := trodAll_nil r2
  obtain rfl : args = #[v0, v1, v2] := by cases args; simp_all
  obtain ⟨rfl, rfl⟩ := trodVars_none hV
  have k0 := h0
  have lt0 : ∀ x ∈ p0, x.block < W.heap.size := by obtain ⟨m, hm⟩ := k0; exact DataW.trod_lt m _ _ _ hm
  obtain ⟨y0, rfl, rfl, rfl, w0⟩ := open_int Tryd.underlying2 (hval 0 2 v0 rfl rfl) h0
  have k1 := h1
  have lt1 : ∀ x ∈ p1, x.block < W.heap.size := by obtain ⟨m, hm⟩ := k1; exact DataW.trod_lt m _ _ _ hm
  obtain ⟨y1, rfl, rfl, rfl, w1⟩ := open_int Tryd.underlying2 (hval 1 2 v1 rfl rfl) h1
  have k2 := h2
  have lt2 : ∀ x ∈ p2, x.block < W.heap.size := by obtain ⟨m, hm⟩ := k2; exact DataW.trod_lt m _ _ _ hm
  obtain ⟨a2, len2, cap2, rfl⟩ := okWide_slice Tryd.underlying22 (hval 2 22 v2 rfl rfl)
  obtain ⟨fu2, hf2⟩ := h2
  obtain ⟨y2, ⟨A2, c2, e2, hc2, hr2⟩, w2⟩ := (Opens.slice (w := W) Tryd.underlying22 (by kernel_rfl) (Opens.int (w := W) Tryd.underlying2 (by kernel_rfl))).2 _ _ _ _ _ _ _ _ hf2
  simp only [Value.cells, List.cons.injEq, Value.slice.injEq, and_true] at e2
  obtain ⟨rfl, rfl, rfl⟩ := e2
  have hLv := lv_of hL
  clear hA0 hval0 hsz0
  obtain ⟨k, hk⟩ := Pu.lawW y0 y1 y2 w0 w1 w2
  refine (laws_FnExactTonesIn.calls k y0 y1 a2 cap2 y2 true W hr2 hc2 hLv hk).mono fun e W' ⟨he, bel⟩ => ?_
  subst he
  exact ⟨_, rfl, _, _, _, [], _, [], hW', trodAll_mk1 (shut_bool (show Tryd.prog.underlying 4 = some .bool by kernel_rfl) _), (trodAll_cons_mk (Below.trod laidOut (by kernel_rfl) (of_decide_eq_true (by kernel_rfl)) k0 bel lt0) (trodAll_cons_mk (Below.trod laidOut (by kernel_rfl) (of_decide_eq_true (by kernel_rfl)) k1 bel lt1) (trodAll_cons_mk (Below.trod laidOut (by kernel_rfl) (of_decide_eq_true (by kernel_rfl)) k2 bel lt2) trodAll_mk0))), rfl, bel.frame _, fun h => by cases h⟩
theorem over : Rows.fnExactTonesInRow.holds Tryd.pinned (OpenSpec.ofChange Rows.fnExactTonesInSpec) :=
  OpenClaim.holds_of_wide 3 Tryd.f3 rfl rfl rfl rfl rfl rfl rfl ⟨rfl, rfl, rfl, rfl, rfl⟩ rfl rfl rfl rfl rfl (by kernel_rfl) Tryd.func3 (by kernel_rfl)
    (of_decide_eq_true (by kernel_rfl)) (by unfold Func.isWrapper; first | (rw [if_pos (by decide +kernel)]; kernel_rfl) | (rw [if_neg (by decide +kernel)]; exact ⟨rfl, rfl⟩))
    (fun os started H enc _ => lifted os started H enc)
end Go.Proofs.YtgklofginkafgaaDoor.fnExactTonesIn
namespace Go.Proofs.YtgklofginkafgaaDoor
theorem fnExactTonesIn_row_holds : Rows.FnExactTonesInSaid := fnExactTonesIn.over
theorem fnExactTonesIn_card : Rows.FnExactTonesInCardSaid :=
  Claim7.holds_tied_plain_at .later [] [.data, .data, .data] true (true, "97962af99bc47b41f161666163af6fcbaec8c8056be58839a889ab712b302c6b") true
    fnExactTonesIn_row_holds (fun _ h => by cases h) (by kernel_rfl) (fun _ h => by cases h) fnExactTonesIn_row_tie rfl ⟨rfl, rfl⟩ (by kernel_rfl) rfl
    (fun f fn hf hfn => by
      obtain rfl : f = 3 := Option.some.inj ((show Tryd.prog.funcNamed "loop.example/g01033/laws.FnExactTonesIn" = some 3 by kernel_rfl).symm.trans hf) |>.symm
      obtain rfl : fn = Tryd.f3 := (Option.some.inj (Tryd.func3.symm.trans hfn)).symm
      exact ⟨by kernel_rfl, fun j t ht => by
        rw [Tryd.params3] at ht
        have hm : t ∈ [2, 2, 22] := by simpa using Array.mem_of_getElem? ht
        have hall : ([2, 2, 22].all fun u => !Tryd.prog.wantsStandIn u) = true := by kernel_rfl
        exact (show Tryd.prog.wantsStandIn t = false by simpa using List.all_eq_true.1 hall t hm)⟩)
    (by kernel_rfl)
end Go.Proofs.YtgklofginkafgaaDoor
end
#print axioms Go.Proofs.YtgklofginkafgaaDoor.fnExactTonesIn_card
