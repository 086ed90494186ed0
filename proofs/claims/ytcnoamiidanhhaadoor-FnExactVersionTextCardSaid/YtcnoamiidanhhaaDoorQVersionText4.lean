/- What is proved: fnExactVersionText_card, without further conditions; this text holds part 5 of 5 of its proof. -/
import Derived.ProofKit
import Derived.LaidMore
import Derived.OpenShut
import Derived.ShutString
import Derived.ChangeOld
import Derived.Below
import Derived.SizedLaws
import Derived.Stop.Joined
import Derived.Lib.LaidTab
import Derived.Deep.Slices
import Derived.Test.YtcnoamiidanhhaaDoorTie
import Derived.Test.YtcnoamiidanhhaaDoorCards
import Derived.WalkKit
import Derived.Test.YtcnoamiidanhhaaDoorQVersionText3
section
namespace Go.Proofs.YtcnoamiidanhhaaDoorY
open Go.RowKit Go.ChangeShapes Go.Proofs.YtcnoamiidanhhaaDoorW.PrintWords
def Opens (P : Program) (w : World) (t : TypeId) {α : Type} (d : Kd α) (wf : α → Prop) : Prop :=
  P.cellsOf t = d.sz ∧ ∀ (H : Type) (enc : TypeId × Value → H) (base : Nat) (sp : Nat → Bool) (held : Bool) (fuel : Nat) (cs : List Value) (x : DataW H × List MemPlace),
    DataW.trod enc P w base sp held fuel t cs = some x → ∃ a, d.K w a cs ∧ wf a
section
variable {P : Program} {w : World}
theorem Opens.int {t : TypeId} {k : IntKind} (ht : P.underlying t = some (.int k)) (hc : P.cellsOf t = 1) : Opens P w t (Kd.int k) (fun n => (Lit.int k n).wf = true) :=
  ⟨hc, fun H enc base sp held fuel cs x h => by
    obtain ⟨n, rfl, _, hw⟩ := DataW.trod_int ht h
    exact ⟨n, rfl, hw⟩⟩
theorem Opens.bool {t : TypeId} (ht : P.underlying t = some .bool) (hc : P.cellsOf t = 1) : Opens P w t Kd.bool (fun _ => True) :=
  ⟨hc, fun H enc base sp held fuel cs x h => by
    obtain ⟨b, rfl, _⟩ := DataW.trod_bool ht h
    exact ⟨b, rfl, trivial⟩⟩
theorem Opens.string {t : TypeId} (ht : P.underlying t = some .string) (hc : P.cellsOf t = 1) : Opens P w t Kd.string (fun s => s.size ≤ 9223372036854775807) :=
  ⟨hc, fun H enc base sp held fuel cs x h => by
    obtain ⟨s, rfl, _, hs⟩ := DataW.trod_string ht h
    exact ⟨s, rfl, hs⟩⟩
theorem choose_list {α : Type} {p : Nat → α → Prop} : ∀ (n : Nat), (∀ i, i < n → ∃ a, p i a) → ∃ l : List α, l.length = n ∧ ∀ i a, l[i]? = some a → p i a
  | 0, _ => ⟨[], rfl, fun i a h => by simp at h⟩
  | n + 1, h => by
    obtain ⟨l, hl, hp⟩ := choose_list n (fun i hi => h i (by omega))
    obtain ⟨a, ha⟩ := h n (by omega)
    refine ⟨l ++ [a], by simp [hl], fun i b hb => ?_⟩
    by_cases hi : i < n
    · rw [List.getElem?_append_left (by omega)] at hb
      exact hp i b hb
    · rw [List.getElem?_append_right (by omega)] at hb
      have h0 : i - l.length = 0 := by
        rcases Nat.eq_zero_or_pos (i - l.length) with h | h
        · exact h
        · rw [List.getElem?_eq_none (by simp; omega)] at hb; cases hb
      rw [h0] at hb
      simp at hb
      subst hb
      have : i = n := by omega
      subst this
      exact ha
theorem Opens.slice {t e : TypeId} {α : Type} {d : Kd α} {wf : α → Prop} (ht : P.underlying t = some (.slice e)) (hc : P.cellsOf t = 1) (o : Opens P w e d wf) :
    Opens P w t (Kd.slice e d) (fun l => l.length ≤ 9223372036854775807 ∧ ∀ a ∈ l, wf a) :=
  ⟨hc, fun H enc base sp held fuel cs x h => by
    rcases Go.Deep.open_slice ht h with ⟨rfl, _⟩ | ⟨a, len, cap, m, n, D, Pl, rfl, _, hl, hm, hmm, _, hx⟩
    · exact ⟨[], ⟨none, 0, rfl, Nat.le_refl _, rfl, by simp, fun h => absurd h (by simp)⟩, by simp, by simp⟩
    · have hle : len ≤ m := by rw [hmm]; split <;> omega
      have hmx : cap ≤ 9223372036854775807 := hm
      obtain ⟨l, hlen, hp⟩ := choose_list (p := fun i y => (∃ c, c.length = d.sz ∧ d.K w y c ∧ ∀ j u, c[j]? = some u → w.cell? (a.add (i * d.sz + j)) = some u) ∧ wf y) len (fun i hi => by
        obtain ⟨cs', h1, h2⟩ := hx i (by omega)
        obtain ⟨y, hK, hw⟩ := o.2 H enc base sp held n cs' _ h2
        obtain ⟨_, hl', hcell⟩ := World.cells?_some h1
        rw [o.1] at hl' hcell
        refine ⟨y, ⟨cs', hl', hK, fun j u hu => ?_⟩, hw⟩
        have hj : j < d.sz := by
          rcases Nat.lt_or_ge j cs'.length with h | h
          · omega
          · rw [List.getElem?_eq_none h] at hu; cases hu
        have := hcell j hj
        rw [add_add] at this
        rw [this, hu])
      refine ⟨l, ⟨some a, cap, by rw [hlen], by omega, ⟨rfl, by omega, fun _ => ⟨a, rfl, fun j y hy => (hp j y hy).1⟩⟩⟩, by omega, fun y hy => ?_⟩
      obtain ⟨i, hi⟩ := List.mem_iff_getElem?.1 hy
      exact (hp i y hi).2⟩
def OpensL (P : Program) (w : World) (fs : List Field) (off : Nat) {α : Type} (d : Kd α) (wf : α → Prop) : Prop :=
  ∀ (H : Type) (enc : TypeId × Value → H) (base : Nat) (sp : Nat → Bool) (held : Bool) (fuel : Nat) (cs : List Value),
    (∀ f ∈ fs, ∃ x, DataW.trod enc P w base sp held fuel f.type ((cs.drop f.offset).take (P.cellsOf f.type)) = some x) → cs.length = off + d.sz → ∃ a, d.K w (a : α) (cs.drop off) ∧ wf a
theorem OpensL.last {f : Field} {off : Nat} {α : Type} {d : Kd α} {wf : α → Prop} (o : Opens P w f.type d wf) (ho : f.offset = off) : OpensL P w [f] off d wf := by
  intro H enc base sp held fuel cs h hl
  obtain ⟨x, hx⟩ := h f (List.mem_singleton.2 rfl)
  rw [o.1, ho, List.take_of_length_le (by simp; omega)] at hx
  exact o.2 _ _ _ _ _ _ _ _ hx
theorem OpensL.cons {f : Field} {fs : List Field} {off : Nat} {α β : Type} {d : Kd α} {e : Kd β} {wf : α → Prop} {wf' : β → Prop} (o : Opens P w f.type d wf) (ho : f.offset = off) (r : OpensL P w fs (off + d.sz) e wf') :
    OpensL P w (f :: fs) off (Kd.pair d e) (fun p => wf p.1 ∧ wf' p.2) := by
  intro H enc base sp held fuel cs h hl
  have hs : (Kd.pair d e).sz = d.sz + e.sz := rfl
  obtain ⟨x, hx⟩ := h f (List.mem_cons_self ..)
  obtain ⟨b, hb, hwb⟩ := r H enc base sp held fuel cs (fun g hg => h g (List.mem_cons_of_mem _ hg)) (by omega)
  rw [o.1, ho] at hx
  obtain ⟨a, ha, hwa⟩ := o.2 _ _ _ _ _ _ _ _ hx
  refine ⟨(a, b), ⟨(cs.drop off).take d.sz, cs.drop (off + d.sz), ?_, ?_, ?_⟩, hwa, hwb⟩
  all_goals first
    | exact ha
    | exact hb
    | (rw [← List.drop_drop, List.take_append_drop])
theorem Opens.struct {t : TypeId} {fs : Array Field} {α β : Type} {d : Kd α} {wf : α → Prop} {f : β → α} (g : α → β) (hg : ∀ a, f (g a) = a) (ht : P.underlying t = some (.struct fs)) (hc : P.cellsOf t = d.sz) (o : OpensL P w fs.toList 0 d wf) :
    Opens P w t (Kd.iso d f) (fun b => wf (f b)) :=
  ⟨hc, fun H enc base sp held fuel cs x h => by
    obtain ⟨xs, n, _, _, hl, hn, hf⟩ := DataW.trod_struct ht h
    obtain ⟨a, ha, hw⟩ := o H enc base sp held n cs (fun f hm => by
      obtain ⟨i, hi⟩ := List.mem_iff_getElem?.1 hm
      have hi' : fs[i]? = some f := by rw [← hi, Array.getElem?_toList]
      have := hf i f hi'
      have hlt : i < xs.length := by
        rcases Nat.lt_or_ge i fs.size with h | h
        · omega
        · rw [Array.getElem?_eq_none h] at hi'; cases hi'
      rw [List.getElem?_eq_getElem hlt] at this
      exact ⟨_, this⟩) (by rw [hl, hc]; omega)
    have e : f (g a) = a := hg a
    exact ⟨g a, by show d.K w (f (g a)) cs; rw [e]; exact ha, by show wf (f (g a)); rw [e]; exact hw⟩⟩
theorem laid_mem {laid : List (String × DataW Unit)} {n : String} {d : DataW Unit} (hm : (n, d) ∈ laid) : ∀ {ps : List MemPlace}, DataW.LaidVars P w laid ps →
    ∃ g t cs fuel p, P.globalNamed n = some g ∧ (P.globals[g]?).map (·.type) = some t ∧ w.var? P n = some cs ∧ DataW.trod (fun _ => ()) P w 0 (fun _ => true) false fuel t cs.toList = some (d, p) := by
  induction laid with
  | nil => cases hm
  | cons a l ih =>
    obtain ⟨m, e⟩ := a
    rintro ps ⟨g, t, cs, fuel, p, q, h1, h2, h3, h4, h5, _⟩
    rcases List.mem_cons.1 hm with h | h
    · cases h
      exact ⟨g, t, cs, fuel, p, h1, h2, h3, h4⟩
    · exact ih h h5
theorem tab_laid {laid : List (String × DataW Unit)} {name : String} {k : IntKind} {zs : List Int} (hm : (name, Lib.tabData k zs) ∈ laid) {g : Nat} {t e : TypeId} {n : Nat}
    (hg : P.globalNamed name = some g) (hty : (P.globals[g]?).map (·.type) = some t) (ht : P.underlying t = some (.array n e)) (he : P.underlying e = some (.int k)) (hce : P.cellsOf e = 1) (hct : P.cellsOf t = n)
    (h : laidMetH P laid w) (hp : (laid.all fun x => x.2.handleName?.isNone) = true) : Lib.TabIs P w name k zs := by
  rw [MakeChecks.laidMetH_plain _ _ _ hp] at h
  obtain ⟨ps, hv, _⟩ := h
  obtain ⟨g', t', cs, fuel, p, hg', ht', hvar, hd⟩ := laid_mem hm hv
  obtain rfl := Option.some.inj (hg.symm.trans hg')
  obtain rfl := Option.some.inj (hty.symm.trans ht')
  unfold Lib.TabIs
  rw [hvar, ← Lib.cells_of_tab ht he hce hct hd]
end
end Go.Proofs.YtcnoamiidanhhaaDoorY
end
section
namespace Go.Proofs.YtcnoamiidanhhaaDoor.Pu
set_option linter.unusedSimpArgs false
set_option linter.unusedVariables false
open Go.RowKit Go.Proofs.YtcnoamiidanhhaaDoorW.PrintWords
theorem wr {x : Int} (h0 : -9223372036854775808 ≤ x) (h1 : x ≤ 9223372036854775807) : wrap64 x = x := by
  unfold wrap64
  omega
theorem Ev_succ {α : Type} {g : Nat → Option α} {r : α} (h : Ev (fun k => g (k + 1)) r) : Ev g r := Ev.step (fun _ => rfl) h
theorem Ev_ite {α : Type} {c : Prop} [Decidable c] {a b : Nat → Option α} {r : α} (h1 : c → Ev a r) (h2 : ¬ c → Ev b r) : Ev (fun k => if c then a k else b k) r := by
  by_cases hc : c
  · simp only [if_pos hc]
    exact h1 hc
  · simp only [if_neg hc]
    exact h2 hc
theorem bytes_ext {a b : ByteArray} (h : a.data.toList = b.data.toList) : a = b := by
  cases a
  cases b
  simp only [ByteArray.mk.injEq]
  exact Array.toList_inj.1 h
theorem size_mk (l : List UInt8) : (⟨l.toArray⟩ : ByteArray).size = l.length := by simp [ByteArray.size]
theorem size_toList (s : ByteArray) : s.size = s.data.toList.length := by rw [Array.length_toList]; rfl
def allFrom (p : Int → Bool) (s : ByteArray) : Nat → Nat → Bool
  | _, 0 => true
  | i, d + 1 => p (bt s i) && allFrom p s (i + 1) d
theorem toList_data (s : ByteArray) : s.toList = s.data.toList := ByteArray.toList_eq s
theorem toList_nil_iff (s : ByteArray) : s.toList = ([] : List UInt8) ↔ s.size = 0 := by
  rw [toList_data, size_toList, List.length_eq_zero_iff]
end Go.Proofs.YtcnoamiidanhhaaDoor.Pu
end
section
namespace Go.Proofs.YtcnoamiidanhhaaDoor.Pu
set_option linter.unusedSimpArgs false
set_option linter.unusedVariables false
open Go.RowKit Go.Proofs.YtcnoamiidanhhaaDoorW.PrintWords Go.Proofs.YtcnoamiidanhhaaDoor.PA
theorem l00In_eq (a b c : Int) : spec_l00In.f a b c = some (decide (b ≤ a ∧ a ≤ c)) := by
  unfold spec_l00In.f
  by_cases h : a ≥ b
  · rw [if_pos h]
    simp only [ge_iff_le] at h
    simp [h]
  · rw [if_neg h]
    simp only [ge_iff_le] at h
    simp [h]
theorem within_eq (a b c : Int) : impl_within.f a b c = some (decide (b ≤ a ∧ a ≤ c)) := by
  unfold impl_within.f
  by_cases h : a ≥ b
  · rw [if_pos h]
    simp only [ge_iff_le] at h
    simp [h]
  · rw [if_neg h]
    simp only [ge_iff_le] at h
    simp [h]
end Go.Proofs.YtcnoamiidanhhaaDoor.Pu
end
section
namespace Go.Proofs.YtcnoamiidanhhaaDoor.Pu
set_option linter.unusedSimpArgs false
set_option linter.unusedVariables false
open Go.RowKit Go.Proofs.YtcnoamiidanhhaaDoorW.PrintWords Go.Proofs.YtcnoamiidanhhaaDoor.PA
def nmC (c : Int) : Bool := decide (97 ≤ c ∧ c ≤ 122) || decide (48 ≤ c ∧ c ≤ 57)
def isNm (s : ByteArray) : Bool := decide (1 ≤ s.size ∧ s.size ≤ 10) && (decide (97 ≤ bt s 0 ∧ bt s 0 ≤ 122) && allFrom nmC s 0 s.size)
theorem small_eq (c : Int) : spec_l01Small.f c = some (decide (97 ≤ c ∧ c ≤ 122)) := by
  unfold spec_l01Small.f
  by_cases h : c ≥ 97
  · rw [if_pos h]
    simp only [ge_iff_le] at h
    simp [h]
  · rw [if_neg h]
    simp only [ge_iff_le] at h
    simp [h]
theorem digit_eq (c : Int) : spec_l01Digit.f c = some (decide (48 ≤ c ∧ c ≤ 57)) := by
  unfold spec_l01Digit.f
  by_cases h : c ≥ 48
  · rw [if_pos h]
    simp only [ge_iff_le] at h
    simp [h]
  · rw [if_neg h]
    simp only [ge_iff_le] at h
    simp [h]
theorem l01Name_l0 (s : ByteArray) (hs : s.size ≤ 9223372036854775806) (d : Nat) : ∀ i : Nat, i + d = s.size → Ev (fun k => spec_l01Name.l0 k s (i : Int)) (allFrom nmC s i d) := by
  induction d with
  | zero =>
    intro i hi
    apply Ev_succ
    simp only [spec_l01Name.l0, if_neg (show ¬ ((i : Int) < (s.size : Int)) by omega)]
    exact Ev.now _
  | succ d ih =>
    intro i hi
    apply Ev_succ
    simp only [spec_l01Name.l0, if_pos (show (i : Int) < (s.size : Int) by omega), if_pos (show 0 ≤ (i : Int) by omega), small_eq, digit_eq, Option.bind_some, wr (show -9223372036854775808 ≤ (i : Int) + 1 by omega) (by omega)]
    have h2 := ih (i + 1) (by omega)
    rw [show ((i + 1 : Nat) : Int) = (i : Int) + 1 by omega] at h2
    unfold allFrom nmC
    by_cases h1 : 97 ≤ bt s (i : Int) ∧ bt s (i : Int) ≤ 122
    · simp only [h1, decide_true, Bool.true_or, Bool.true_and, if_true]
      exact h2
    · by_cases h3 : 48 ≤ bt s (i : Int) ∧ bt s (i : Int) ≤ 57
      · simp only [h1, h3, decide_true, decide_false, Bool.or_true, Bool.true_and, if_true, Bool.false_eq_true, if_false]
        exact h2
      · simp only [h1, h3, decide_false, Bool.or_self, Bool.false_and, Bool.false_eq_true, if_false]
        exact Ev.now _
theorem l01Name_eq (s : ByteArray) (hs : s.size ≤ 9223372036854775806) : Ev (fun k => spec_l01Name.f k s) (isNm s) := by
  have hl := l01Name_l0 s hs s.size 0 (by omega)
  have hj : Ev (fun k => spec_l01Name.j0 k s true) false := by
    apply Ev_succ
    simp only [spec_l01Name.j0, if_true]
    exact Ev.now _
  unfold spec_l01Name.f isNm
  by_cases h0 : s.size = 0
  · simp only [if_pos ((toList_nil_iff s).2 h0)]
    simp only [h0]
    simpa using hj
  · simp only [if_neg (fun h => h0 ((toList_nil_iff s).1 h))]
    by_cases h1 : (s.size : Int) > 10
    · simp only [if_pos h1, show ¬ (1 ≤ s.size ∧ s.size ≤ 10) by omega, decide_false, Bool.false_and]
      exact hj
    · simp only [if_neg h1, if_pos (show 0 < (s.size : Int) by omega), small_eq, Option.bind_some, show (1 ≤ s.size ∧ s.size ≤ 10) by omega, decide_true, Bool.true_and]
      apply Ev_succ
      by_cases h2 : 97 ≤ bt s 0 ∧ bt s 0 ≤ 122
      · simp only [spec_l01Name.j0, h2, decide_true, Bool.not_true, Bool.false_eq_true, if_false, and_self, Bool.true_and]
        exact hl
      · simp only [spec_l01Name.j0, h2, decide_false, Bool.not_false, if_true, Bool.false_and]
        exact Ev.now _
theorem only_l0 (s : ByteArray) (hs : s.size ≤ 9223372036854775806) (d : Nat) : ∀ i : Nat, i + d = s.size → Ev (fun k => impl_onlyNameBytes.l0 k s (s.size : Int) (i : Int)) (allFrom nmC s i d) := by
  induction d with
  | zero =>
    intro i hi
    apply Ev_succ
    simp only [impl_onlyNameBytes.l0, if_neg (show ¬ ((i : Int) < (s.size : Int)) by omega)]
    exact Ev.now _
  | succ d ih =>
    intro i hi
    apply Ev_succ
    simp only [impl_onlyNameBytes.l0, if_pos (show (i : Int) < (s.size : Int) by omega), if_pos (show 0 ≤ (i : Int) by omega), wr (show -9223372036854775808 ≤ (i : Int) + 1 by omega) (by omega)]
    have h2 := ih (i + 1) (by omega)
    rw [show ((i + 1 : Nat) : Int) = (i : Int) + 1 by omega] at h2
    unfold allFrom nmC
    generalize bt s (i : Int) = c
    have e1 : ∀ p : Bool, p = true → Ev (fun k => impl_onlyNameBytes.l0 k s (s.size : Int) ((i : Int) + 1)) (p && allFrom nmC s (i + 1) d) := by
      intro p hp
      rw [hp, Bool.true_and]
      exact h2
    have e2 : ∀ p : Bool, p = false → Ev (fun _ => some false) (p && allFrom nmC s (i + 1) d) := by
      intro p hp
      rw [hp, Bool.false_and]
      exact Ev.now _
    refine Ev_ite (fun a => Ev_ite (fun b => e2 _ (by simp; omega)) (fun b => Ev_ite (fun c => e2 _ (by simp; omega)) (fun c => e1 _ (by simp; omega)))) (fun a => Ev_ite (fun b => Ev_ite (fun c => e2 _ (by simp; omega)) (fun c => Ev_ite (fun d => e2 _ (by simp; omega)) (fun d => e1 _ (by simp; omega)))) (fun b => e1 _ (by simp; omega)))
theorem IsName_eq (s : ByteArray) (hs : s.size ≤ 9223372036854775806) : Ev (fun k => impl_IsName.f k s) (isNm s) := by
  have hl := only_l0 s hs s.size 0 (by omega)
  unfold impl_IsName.f isNm
  by_cases h0 : s.size < 1
  · simp only [if_pos (show (s.size : Int) < 1 by omega), show ¬ (1 ≤ s.size ∧ s.size ≤ 10) by omega, decide_false, Bool.false_and]
    exact Ev.now _
  · simp only [if_neg (show ¬ (s.size : Int) < 1 by omega)]
    by_cases h1 : (s.size : Int) > 10
    · simp only [if_pos h1, show ¬ (1 ≤ s.size ∧ s.size ≤ 10) by omega, decide_false, Bool.false_and]
      exact Ev.now _
    · simp only [if_neg h1, if_pos (show 0 < (s.size : Int) by omega), show (1 ≤ s.size ∧ s.size ≤ 10) by omega, decide_true, Bool.true_and]
      by_cases h2 : bt s 0 < 97
      · simp only [if_pos h2, show ¬ (97 ≤ bt s 0 ∧ bt s 0 ≤ 122) by omega, decide_false, Bool.false_and]
        exact Ev.now _
      · simp only [if_neg h2]
        by_cases h3 : bt s 0 > 122
        · simp only [if_pos h3, show ¬ (97 ≤ bt s 0 ∧ bt s 0 ≤ 122) by omega, decide_false, Bool.false_and]
          exact Ev.now _
        · simp only [if_neg h3, show (97 ≤ bt s 0 ∧ bt s 0 ≤ 122) by omega, decide_true, Bool.true_and]
          refine Ev.bind (g := fun k => impl_onlyNameBytes.f k s) (f := fun _ t => some t) ?_ (Ev.now _)
          unfold impl_onlyNameBytes.f
          exact hl
end Go.Proofs.YtcnoamiidanhhaaDoor.Pu
end
section
namespace Go.Proofs.YtcnoamiidanhhaaDoor.Pu
set_option linter.unusedSimpArgs false
set_option linter.unusedVariables false
open Go.RowKit Go.Proofs.YtcnoamiidanhhaaDoorW.PrintWords Go.Proofs.YtcnoamiidanhhaaDoor.PA
theorem set_copy {α : Type} (l : List α) (z : α) (i d : Nat) (h : i + (d + 1) = l.length) (x : α) (hx : l[i]? = some x) :
    (l.take i ++ List.replicate (d + 1) z).set i x = l.take (i + 1) ++ List.replicate d z := by
  have hlt : i < l.length := by omega
  have hl : (l.take i).length = i := by rw [List.length_take]; omega
  rw [List.set_append_right _ _ (by omega), hl, Nat.sub_self, List.replicate_succ, List.set_cons_zero, List.take_succ_eq_append_getElem hlt]
  rw [List.getElem?_eq_getElem hlt] at hx
  obtain rfl := Option.some.inj hx
  rw [List.append_assoc]
  rfl
def cSet (x : S99) : S69 := ⟨x.f0, x.f1⟩
theorem szSettingS_l0 (l : List S99) (hl : l.length ≤ 1048576) (hn : ∀ x ∈ l, x.f0.size ≤ 9223372036854775807) (d : Nat) :
    ∀ (i : Nat) (left : Int), i + d = l.length → 0 ≤ left → left ≤ 1048576 → ∃ r, Ev (fun k => laws_szSettingS.l0 k l left (i : Int)) r ∧ r ≤ left ∧ (0 ≤ r → ∀ x ∈ l.drop i, x.f0.size ≤ 1048576) := by
  induction d with
  | zero =>
    intro i left hi h0 h1
    refine ⟨left, ?_, Int.le_refl _, fun _ x hx => ?_⟩
    · apply Ev_succ
      simp only [laws_szSettingS.l0, if_neg (show ¬ ((i : Int) < (l.length : Int)) by omega)]
      exact Ev.now _
    · rw [List.drop_of_length_le (by omega)] at hx
      cases hx
  | succ d ih =>
    intro i left hi h0 h1
    have hlt : i < l.length := by omega
    have hrd : rd_T99 l (i : Int) = l[i] := by simp [rd_T99, List.getD_eq_getElem?_getD, List.getElem?_eq_getElem hlt]
    have hs := hn l[i] (List.getElem_mem hlt)
    by_cases hb : left - (l[i].f0.size : Int) < 0
    · refine ⟨-1, ?_, by omega, fun h => absurd h (by omega)⟩
      apply Ev_succ
      simp only [laws_szSettingS.l0, laws_szSetting.f, hrd, if_pos (show (i : Int) < (l.length : Int) by omega), if_pos (show 0 ≤ (i : Int) by omega), wr (show -9223372036854775808 ≤ left - (l[i].f0.size : Int) by omega) (by omega), if_pos hb, Option.bind_some, if_pos (show (-1 : Int) < 0 by omega)]
      exact Ev.now _
    · obtain ⟨r, hr, hle, hw⟩ := ih (i + 1) (left - (l[i].f0.size : Int)) (by omega) (by omega) (by omega)
      refine ⟨r, ?_, by omega, fun h x hx => ?_⟩
      · apply Ev_succ
        simp only [laws_szSettingS.l0, laws_szSetting.f, hrd, if_pos (show (i : Int) < (l.length : Int) by omega), if_pos (show 0 ≤ (i : Int) by omega), wr (show -9223372036854775808 ≤ left - (l[i].f0.size : Int) by omega) (by omega), if_neg hb, Option.bind_some, wr (show -9223372036854775808 ≤ (i : Int) + 1 by omega) (by omega)]
        rwa [show ((i + 1 : Nat) : Int) = (i : Int) + 1 by omega] at hr
      · rw [List.drop_eq_getElem_cons hlt] at hx
        rcases List.mem_cons.1 hx with rfl | hx
        · omega
        · exact hw h x hx
theorem szSettingS_eq (l : List S99) (hl : l.length ≤ 9223372036854775807) (hn : ∀ x ∈ l, x.f0.size ≤ 9223372036854775807) (left : Int) (h0 : 0 ≤ left) (h1 : left ≤ 1048576) :
    ∃ r, Ev (fun k => laws_szSettingS.f k l left) r ∧ r ≤ left ∧ (0 ≤ r → l.length ≤ 1048576 ∧ ∀ x ∈ l, x.f0.size ≤ 1048576) := by
  unfold laws_szSettingS.f
  rw [wr (show -9223372036854775808 ≤ left - (l.length : Int) by omega) (by omega)]
  by_cases hb : left - (l.length : Int) < 0
  · refine ⟨-1, ?_, by omega, fun h => absurd h (by omega)⟩
    simp only [if_pos hb]
    exact Ev.now _
  · obtain ⟨r, hr, hle, hw⟩ := szSettingS_l0 l (by omega) hn l.length 0 (left - (l.length : Int)) (by omega) (by omega) (by omega)
    refine ⟨r, ?_, by omega, fun h => ⟨by omega, fun x hx => hw h x (by simpa using hx)⟩⟩
    simp only [if_neg hb]
    exact hr
theorem toSettingS_l0 (l : List S99) (hl : l.length ≤ 1048576) (d : Nat) : ∀ i : Nat, i + d = l.length → Ev (fun k => laws_toSettingS.l0 k l ((l.map cSet).take i ++ List.replicate d z69) (i : Int)) (l.map cSet) := by
  induction d with
  | zero =>
    intro i hi
    apply Ev_succ
    simp only [laws_toSettingS.l0, if_neg (show ¬ ((i : Int) < (l.length : Int)) by omega), List.take_of_length_le (show (l.map cSet).length ≤ i by rw [List.length_map]; omega), List.replicate_zero, List.append_nil]
    exact Ev.now _
  | succ d ih =>
    intro i hi
    have hlt : i < l.length := by omega
    have hlen : ((l.map cSet).take i ++ List.replicate (d + 1) z69).length = l.length := by
      rw [List.length_append, List.length_take, List.length_replicate, List.length_map]
      omega
    have hrd : rd_T99 l (i : Int) = l[i] := by simp [rd_T99, List.getD_eq_getElem?_getD, List.getElem?_eq_getElem hlt]
    apply Ev_succ
    simp only [laws_toSettingS.l0, laws_toSetting.f, Option.bind_some, hlen, hrd, if_pos (show (i : Int) < (l.length : Int) by omega), if_pos (show 0 ≤ (i : Int) by omega), Int.toNat_natCast, wr (show -9223372036854775808 ≤ (i : Int) + 1 by omega) (by omega)]
    rw [set_copy (l.map cSet) z69 i d (by rw [List.length_map]; exact hi) (⟨l[i].f0, l[i].f1⟩) (by rw [List.getElem?_map, List.getElem?_eq_getElem hlt]; rfl)]
    have h2 := ih (i + 1) (by omega)
    rwa [show ((i + 1 : Nat) : Int) = (i : Int) + 1 by omega] at h2
theorem toSettingS_eq (l : List S99) (hl : l.length ≤ 1048576) : Ev (fun k => laws_toSettingS.f k l) (l.map cSet) := by
  unfold laws_toSettingS.f
  simp only [if_pos (show 0 ≤ (l.length : Int) by omega), Int.toNat_natCast, if_pos (show l.length ≤ 11728124029610 by omega)]
  exact toSettingS_l0 l hl l.length 0 (by omega)
theorem eqSettingS_l0 (l : List S69) (hl : l.length ≤ 1048576) (d : Nat) : ∀ i : Nat, i + d = l.length → Ev (fun k => laws_eqSettingS.l0 k l l (i : Int)) true := by
  induction d with
  | zero =>
    intro i hi
    apply Ev_succ
    simp only [laws_eqSettingS.l0, if_neg (show ¬ ((i : Int) < (l.length : Int)) by omega)]
    exact Ev.now _
  | succ d ih =>
    intro i hi
    apply Ev_succ
    simp only [laws_eqSettingS.l0, laws_eqSetting.f, if_pos (show (i : Int) < (l.length : Int) by omega), if_pos (show 0 ≤ (i : Int) by omega), if_true, Option.bind_some, wr (show -9223372036854775808 ≤ (i : Int) + 1 by omega) (by omega)]
    have h2 := ih (i + 1) (by omega)
    rwa [show ((i + 1 : Nat) : Int) = (i : Int) + 1 by omega] at h2
theorem eqSettingS_eq (l : List S69) (hl : l.length ≤ 1048576) : Ev (fun k => laws_eqSettingS.f k l l) true := by
  unfold laws_eqSettingS.f
  simp only [if_true]
  exact eqSettingS_l0 l hl l.length 0 (by omega)
end Go.Proofs.YtcnoamiidanhhaaDoor.Pu
end
section
namespace Go.Proofs.YtcnoamiidanhhaaDoor.Pu
set_option linter.unusedSimpArgs false
set_option linter.unusedVariables false
open Go.RowKit Go.Proofs.YtcnoamiidanhhaaDoorW.PrintWords Go.Proofs.YtcnoamiidanhhaaDoor.PA
def okSett (x : S69) : Bool := isNm x.f0 && decide (0 ≤ x.f1 ∧ x.f1 ≤ 1000)
def okFrom (l : List S69) : Nat → Nat → Bool
  | _, 0 => true
  | i, d + 1 => okSett (rd_T69 l i) && ((decide (i = 0) || Op.bytesLess (rd_T69 l ((i : Int) - 1)).f0.toList (rd_T69 l i).f0.toList) && okFrom l (i + 1) d)
def okState (l : List S69) : Bool := decide (l.length ≤ 24) && okFrom l 0 l.length
theorem rdS_mem (l : List S69) (i : Nat) (h : i < l.length) : rd_T69 l (i : Int) = l[i] := by
  simp [rd_T69, List.getD_eq_getElem?_getD, List.getElem?_eq_getElem h]
theorem Setting_valid_eq (x : S69) (hx : x.f0.size ≤ 9223372036854775806) : Ev (fun k => impl_Setting_valid.f k x.f0 x.f1) (okSett x) := by
  unfold impl_Setting_valid.f okSett
  refine Ev.bind (IsName_eq x.f0 hx) ?_
  cases isNm x.f0 with
  | true => simp only [if_true, within_eq, Option.bind_some, Bool.true_and]; exact Ev.now _
  | false => simp only [Bool.false_eq_true, if_false, Bool.false_and]; exact Ev.now _
theorem l27Setting_eq (x : S69) (hx : x.f0.size ≤ 9223372036854775806) : Ev (fun k => spec_l27Setting.f k [x]) (okSett x) := by
  unfold spec_l27Setting.f okSett
  simp only [List.length_singleton, show (0 : Int) < ((1 : Nat) : Int) by omega, if_true, rd_T69, show ([x].getD (0 : Int).toNat z69) = x from rfl]
  refine Ev.bind (l01Name_eq x.f0 hx) ?_
  cases isNm x.f0 with
  | true => simp only [if_true, l00In_eq, Option.bind_some, Bool.true_and]; exact Ev.now _
  | false => simp only [Bool.false_eq_true, if_false, Bool.false_and]; exact Ev.now _
theorem l27State_l0 (l : List S69) (hl : l.length ≤ 1048576) (hn : ∀ x ∈ l, x.f0.size ≤ 1048576) (d : Nat) : ∀ i : Nat, i + d = l.length → Ev (fun k => spec_l27State.l0 k l (i : Int)) (okFrom l i d && decide (l.length ≤ 24)) := by
  induction d with
  | zero =>
    intro i hi
    apply Ev_succ
    simp only [spec_l27State.l0, if_neg (show ¬ ((i : Int) < (l.length : Int)) by omega), okFrom, Bool.true_and]
    rw [show decide ((l.length : Int) ≤ 24) = decide (l.length ≤ 24) by simp; omega]
    exact Ev.now _
  | succ d ih =>
    intro i hi
    have hlt : i < l.length := by omega
    have hs := hn (rd_T69 l (i : Int)) (by rw [rdS_mem l i hlt]; exact List.getElem_mem hlt)
    apply Ev_succ
    simp only [spec_l27State.l0, if_pos (show (i : Int) < (l.length : Int) by omega), if_pos (show 0 ≤ (i : Int) by omega), wr (show -9223372036854775808 ≤ (i : Int) + 1 by omega) (by omega), wr (show -9223372036854775808 ≤ (i : Int) - 1 by omega) (by omega)]
    refine Ev.bind (l27Setting_eq _ (by omega)) ?_
    unfold okFrom
    cases okSett (rd_T69 l (i : Int)) with
    | false => simp only [Bool.false_eq_true, if_false, Bool.false_and]; exact Ev.now _
    | true =>
      have h2 := ih (i + 1) (by omega)
      rw [show ((i + 1 : Nat) : Int) = (i : Int) + 1 by omega] at h2
      simp only [if_true, Bool.true_and]
      by_cases h0 : i = 0
      · simp only [if_neg (show ¬ ((i : Int) > 0) by omega), h0, decide_true, Bool.true_or, Bool.true_and]
        subst h0
        exact h2
      · simp only [if_pos (show (i : Int) > 0 by omega), if_pos (show 0 ≤ (i : Int) - 1 by omega), if_pos (show (i : Int) - 1 < (l.length : Int) by omega), h0, decide_false, Bool.false_or]
        cases Op.bytesLess (rd_T69 l ((i : Int) - 1)).f0.toList (rd_T69 l i).f0.toList with
        | true => simp only [if_true, Bool.true_and]; exact h2
        | false => simp only [Bool.false_eq_true, if_false, Bool.false_and]; exact Ev.now _
theorem l27State_eq (l : List S69) (hl : l.length ≤ 1048576) (hn : ∀ x ∈ l, x.f0.size ≤ 1048576) : Ev (fun k => spec_l27State.f k l) (okState l) := by
  unfold spec_l27State.f okState
  rw [Bool.and_comm]
  exact l27State_l0 l hl hn l.length 0 (by omega)
theorem ValidState_l0 (l : List S69) (hl : l.length ≤ 1048576) (hn : ∀ x ∈ l, x.f0.size ≤ 1048576) (d : Nat) : ∀ i : Nat, i + d = l.length → Ev (fun k => impl_ValidState.l0 k l l (l.length : Int) (i : Int)) (okFrom l i d) := by
  induction d with
  | zero =>
    intro i hi
    apply Ev_succ
    simp only [impl_ValidState.l0, if_neg (show ¬ ((i : Int) < (l.length : Int)) by omega), okFrom]
    exact Ev.now _
  | succ d ih =>
    intro i hi
    have hlt : i < l.length := by omega
    have hs := hn (rd_T69 l (i : Int)) (by rw [rdS_mem l i hlt]; exact List.getElem_mem hlt)
    apply Ev_succ
    simp only [impl_ValidState.l0, if_pos (show (i : Int) < (l.length : Int) by omega), if_pos (show 0 ≤ (i : Int) by omega), wr (show -9223372036854775808 ≤ (i : Int) + 1 by omega) (by omega), wr (show -9223372036854775808 ≤ (i : Int) - 1 by omega) (by omega)]
    refine Ev.bind (Setting_valid_eq _ (by omega)) ?_
    unfold okFrom
    cases okSett (rd_T69 l (i : Int)) with
    | false => simp only [Bool.false_eq_true, if_false, Bool.false_and]; exact Ev.now _
    | true =>
      have h2 := ih (i + 1) (by omega)
      rw [show ((i + 1 : Nat) : Int) = (i : Int) + 1 by omega] at h2
      simp only [if_true, Bool.true_and]
      by_cases h0 : i = 0
      · simp only [if_neg (show ¬ ((i : Int) > 0) by omega), h0, decide_true, Bool.true_or, Bool.true_and]
        subst h0
        exact h2
      · simp only [if_pos (show (i : Int) > 0 by omega), if_pos (show 0 ≤ (i : Int) - 1 by omega), if_pos (show (i : Int) - 1 < (l.length : Int) by omega), h0, decide_false, Bool.false_or]
        cases Op.bytesLess (rd_T69 l ((i : Int) - 1)).f0.toList (rd_T69 l i).f0.toList with
        | true => simp only [if_true, Bool.true_and]; exact h2
        | false => simp only [Bool.false_eq_true, if_false, Bool.false_and]; exact Ev.now _
theorem ValidState_eq (l : List S69) (hl : l.length ≤ 1048576) (hn : ∀ x ∈ l, x.f0.size ≤ 1048576) : Ev (fun k => impl_ValidState.f k l) (okState l) := by
  unfold impl_ValidState.f okState
  by_cases h : l.length ≤ 24
  · simp only [if_neg (show ¬ ((l.length : Int) > 24) by omega), h, decide_true, Bool.true_and]
    exact ValidState_l0 l hl hn l.length 0 (by omega)
  · simp only [if_pos (show (l.length : Int) > 24 by omega), h, decide_false, Bool.false_and]
    exact Ev.now _
theorem okFrom_wf (l : List S69) (d : Nat) : ∀ i : Nat, i + d = l.length → okFrom l i d = true → ∀ j : Nat, i ≤ j → j < l.length → okSett (rd_T69 l (j : Int)) = true := by
  induction d with
  | zero => intro i hi _ j h1 h2; omega
  | succ d ih =>
    intro i hi h j h1 h2
    simp only [okFrom, Bool.and_eq_true] at h
    by_cases e : j = i
    · subst e; exact h.1
    · exact ih (i + 1) (by omega) h.2.2 j (by omega) h2
theorem okSett_wf {x : S69} (h : okSett x = true) : 1 ≤ x.f0.size ∧ x.f0.size ≤ 10 ∧ 0 ≤ x.f1 ∧ x.f1 ≤ 1000 := by
  simp only [okSett, isNm, Bool.and_eq_true, decide_eq_true_eq] at h
  exact ⟨h.1.1.1, h.1.1.2, h.2.1, h.2.2⟩
end Go.Proofs.YtcnoamiidanhhaaDoor.Pu
end
section
namespace Go.Proofs.YtcnoamiidanhhaaDoor.Pu
set_option linter.unusedSimpArgs false
set_option linter.unusedVariables false
open Go.RowKit Go.Proofs.YtcnoamiidanhhaaDoorW.PrintWords Go.Proofs.YtcnoamiidanhhaaDoor.PA
def revD (u : Nat) : List Int := if h : u = 0 then [] else ((48 + u % 10 : Nat) : Int) :: revD (u / 10)
termination_by u
decreasing_by omega
theorem revD_dec (u : Nat) (h : u ≠ 0) : (revD u).reverse.map (fun n => UInt8.ofNat n.toNat) = Lib.decDigits u := by
  induction u using Nat.strongRecOn with
  | _ u ih =>
    rw [revD, dif_neg h, List.reverse_cons, List.map_append]
    by_cases h1 : u < 10
    · rw [Lib.decDigits, dif_pos h1, show u / 10 = 0 by omega, revD, dif_pos rfl]
      simp only [List.reverse_nil, List.map_nil, List.nil_append, List.map_cons, Int.toNat_natCast]
      rw [show u % 10 = u by omega]
    · rw [Lib.decDigits, dif_neg h1, ih (u / 10) (by omega) (by omega)]
      simp only [List.map_cons, List.map_nil, Int.toNat_natCast]
theorem l01Dec_l1 (xs : List Int) (hx : xs.length ≤ 1000) (n : Nat) : ∀ acc : List Int, acc.length + n ≤ 1000 → n ≤ xs.length → Ev (fun k => spec_l01Dec.l1 k xs acc ((n : Int) - 1)) (strOfNums (acc ++ (xs.take n).reverse)) := by
  induction n with
  | zero =>
    intro acc _ _
    apply Ev_succ
    simp only [spec_l01Dec.l1, if_neg (show ¬ (((0 : Nat) : Int) - 1 ≥ 0) by omega), List.take_zero, List.reverse_nil, List.append_nil]
    exact Ev.now _
  | succ n ih =>
    intro acc ha hn
    apply Ev_succ
    have e : (((n + 1 : Nat) : Int) - 1) = (n : Int) := by omega
    simp only [spec_l01Dec.l1, e, if_pos (show (n : Int) ≥ 0 by omega), if_pos (show 0 ≤ (n : Int) by omega), if_pos (show (n : Int) < (xs.length : Int) by omega), if_pos (show acc.length < 140737488355328 by omega), wr (show -9223372036854775808 ≤ (n : Int) - 1 by omega) (by omega)]
    have h2 := ih (acc ++ [rd xs (n : Int)]) (by rw [List.length_append, List.length_singleton]; omega) (by omega)
    rw [List.append_assoc] at h2
    have h3 : [rd xs (n : Int)] ++ (xs.take n).reverse = (xs.take (n + 1)).reverse := by
      rw [List.take_succ_eq_append_getElem (by omega), List.reverse_append]
      simp [rd, List.getD_eq_getElem?_getD, List.getElem?_eq_getElem (show n < xs.length by omega)]
    rwa [h3] at h2
theorem l01Dec_j1 (xs : List Int) (hx : xs.length ≤ 1000) : Ev (fun k => spec_l01Dec.j1 k xs) (strOfNums xs.reverse) := by
  apply Ev_succ
  simp only [spec_l01Dec.j1, wr (show -9223372036854775808 ≤ (xs.length : Int) - 1 by omega) (by omega)]
  have h := l01Dec_l1 xs hx xs.length [] (by simpa using hx) (Nat.le_refl _)
  simpa using h
theorem tm (u : Nat) : Int.tmod (u : Int) 10 = ((u % 10 : Nat) : Int) := by
  rw [Int.tmod_eq_emod_of_nonneg (by omega)]
  omega
theorem td (u : Nat) : Int.tdiv (u : Int) 10 = ((u / 10 : Nat) : Int) := by
  rw [Int.tdiv_eq_ediv_of_nonneg (by omega)]
  omega
theorem l01Dec_pos (x0 : Int) (h0 : ¬ x0 < 0) (j : Nat) : ∀ (u : Nat) (xs : List Int), u < 10 ^ j → u < 9223372036854775808 → xs.length + j ≤ 900 → Ev (fun k => spec_l01Dec.l0 k x0 xs (u : Int)) (strOfNums (xs ++ revD u).reverse) := by
  induction j with
  | zero =>
    intro u xs hu _ hx
    have : u = 0 := by simpa using hu
    subst this
    apply Ev_succ
    simp only [spec_l01Dec.l0, if_pos (show ((0 : Nat) : Int) = 0 from rfl), if_neg h0]
    rw [revD, dif_pos rfl, List.append_nil]
    exact l01Dec_j1 xs (by omega)
  | succ j ih =>
    intro u xs hu hub hx
    apply Ev_succ
    by_cases hz : u = 0
    · subst hz
      simp only [spec_l01Dec.l0, if_pos (show ((0 : Nat) : Int) = 0 from rfl), if_neg h0]
      rw [revD, dif_pos rfl, List.append_nil]
      exact l01Dec_j1 xs (by omega)
    · have e : (wrap64 (48 + ((u % 10 : Nat) : Int))) % 256 = ((48 + u % 10 : Nat) : Int) := by
        rw [wr (by omega) (by omega)]
        omega
      simp only [spec_l01Dec.l0, if_neg (show ¬ ((u : Int) = 0) by omega), tm, td, if_neg (show ¬ (((u % 10 : Nat) : Int) < 0) by omega), if_pos (show xs.length < 140737488355328 by omega), e, wr (show -9223372036854775808 ≤ ((u / 10 : Nat) : Int) by omega) (by omega)]
      have h2 := ih (u / 10) (xs ++ [((48 + u % 10 : Nat) : Int)]) (by rw [Nat.pow_succ] at hu; omega) (by omega) (by rw [List.length_append, List.length_singleton]; omega)
      rw [List.append_assoc] at h2
      rw [revD, dif_neg hz]
      exact h2
theorem l01Dec_neg (x0 : Int) (h0 : x0 < 0) (j : Nat) : ∀ (u : Nat) (xs : List Int), u < 10 ^ j → u ≤ 9223372036854775808 → xs.length + j ≤ 900 → Ev (fun k => spec_l01Dec.l0 k x0 xs (-(u : Int))) (strOfNums ((xs ++ revD u) ++ [45]).reverse) := by
  induction j with
  | zero =>
    intro u xs hu _ hx
    have : u = 0 := by simpa using hu
    subst this
    apply Ev_succ
    simp only [spec_l01Dec.l0, if_pos (show (-((0 : Nat) : Int)) = 0 from rfl), if_pos h0, if_pos (show xs.length < 140737488355328 by omega)]
    rw [revD, dif_pos rfl, List.append_nil]
    exact l01Dec_j1 (xs ++ [45]) (by rw [List.length_append, List.length_singleton]; omega)
  | succ j ih =>
    intro u xs hu hub hx
    apply Ev_succ
    by_cases hz : u = 0
    · subst hz
      simp only [spec_l01Dec.l0, if_pos (show (-((0 : Nat) : Int)) = 0 from rfl), if_pos h0, if_pos (show xs.length < 140737488355328 by omega)]
      rw [revD, dif_pos rfl, List.append_nil]
      exact l01Dec_j1 (xs ++ [45]) (by rw [List.length_append, List.length_singleton]; omega)
    · have e1 : Int.tmod (-(u : Int)) 10 = -((u % 10 : Nat) : Int) := by rw [Int.neg_tmod, tm]
      have e2 : Int.tdiv (-(u : Int)) 10 = -((u / 10 : Nat) : Int) := by rw [Int.neg_tdiv, td]
      have e : (wrap64 (48 + ((u % 10 : Nat) : Int))) % 256 = ((48 + u % 10 : Nat) : Int) := by
        rw [wr (by omega) (by omega)]
        omega
      have h2 := ih (u / 10) (xs ++ [((48 + u % 10 : Nat) : Int)]) (by rw [Nat.pow_succ] at hu; omega) (by omega) (by rw [List.length_append, List.length_singleton]; omega)
      rw [List.append_assoc xs] at h2
      simp only [spec_l01Dec.l0, if_neg (show ¬ (-(u : Int) = 0) by omega), e1, e2, if_pos (show xs.length < 140737488355328 by omega), wr (show -9223372036854775808 ≤ -((u / 10 : Nat) : Int) by omega) (by omega), Int.neg_neg, wr (show -9223372036854775808 ≤ ((u % 10 : Nat) : Int) by omega) (by omega)]
      rw [revD, dif_neg hz]
      by_cases hm : u % 10 = 0
      · rw [hm] at h2
        simp only [hm, show ¬ (-((0 : Nat) : Int) < 0) by omega, if_false, show (wrap64 (48 + -((0 : Nat) : Int))) % 256 = ((48 + 0 : Nat) : Int) by rw [wr (by omega) (by omega)]; omega]
        exact h2
      · simp only [if_pos (show -((u % 10 : Nat) : Int) < 0 by omega), e]
        exact h2
theorem l01Dec_eq (n : Int) (h1 : -9223372036854775808 ≤ n) (h2 : n ≤ 9223372036854775807) : Ev (fun k => spec_l01Dec.f k n) ⟨(Lib.itoa n).toArray⟩ := by
  unfold spec_l01Dec.f
  by_cases h0 : n = 0
  · subst h0
    simp only [if_pos]
    have : (Lib.itoa 0) = [48] := by decide +kernel
    rw [this]
    exact Ev.now _
  · simp only [if_neg h0]
    by_cases hn : n < 0
    · obtain ⟨u, hu⟩ : ∃ u : Nat, n = -(u : Int) := ⟨n.natAbs, by omega⟩
      have h := l01Dec_neg n hn 20 u [] (by omega) (by omega) (by simp)
      rw [← hu] at h
      have e : strOfNums (([] ++ revD u) ++ [45]).reverse = ⟨(Lib.itoa n).toArray⟩ := by
        apply bytes_ext
        rw [strOfNums_data, List.nil_append, List.reverse_append, List.map_append, revD_dec u (by omega)]
        unfold Lib.itoa
        rw [if_pos hn, show n.natAbs = u by omega]
        rfl
      rwa [e] at h
    · obtain ⟨u, hu⟩ : ∃ u : Nat, n = (u : Int) := ⟨n.natAbs, by omega⟩
      have h := l01Dec_pos n hn 20 u [] (by omega) (by omega) (by simp)
      rw [← hu] at h
      have e : strOfNums ([] ++ revD u).reverse = ⟨(Lib.itoa n).toArray⟩ := by
        apply bytes_ext
        rw [strOfNums_data, List.nil_append, revD_dec u (by omega)]
        unfold Lib.itoa
        rw [if_neg hn, show n.toNat = u by omega]
      rwa [e] at h
theorem decDigits_lt (j : Nat) : ∀ u, u < 10 ^ (j + 1) → (Lib.decDigits u).length ≤ j + 1 := by
  induction j with
  | zero =>
    intro u hu
    rw [Lib.decDigits, dif_pos (by simpa using hu)]
    simp
  | succ j ih =>
    intro u hu
    rw [Lib.decDigits]
    by_cases h : u < 10
    · rw [dif_pos h]
      simp
    · rw [dif_neg h, List.length_append]
      have := ih (u / 10) (by rw [Nat.pow_succ] at hu; omega)
      simp only [List.length_singleton]
      omega
theorem itoa_length (n : Int) (h1 : -9223372036854775808 ≤ n) (h2 : n ≤ 9223372036854775807) : (Lib.itoa n).length ≤ 20 := by
  unfold Lib.itoa
  by_cases hn : n < 0
  · rw [if_pos hn, List.length_cons]
    have := decDigits_lt 18 n.natAbs (by omega)
    omega
  · rw [if_neg hn]
    have := decDigits_lt 18 n.toNat (by omega)
    omega
theorem Decimal_eq (n : Int) (h1 : -9223372036854775808 ≤ n) (h2 : n ≤ 9223372036854775807) : impl_Decimal.f n = some ⟨(Lib.itoa n).toArray⟩ := by
  unfold impl_Decimal.f
  rw [if_pos ⟨h1, h2⟩]
end Go.Proofs.YtcnoamiidanhhaaDoor.Pu
end
section
namespace Go.Proofs.YtcnoamiidanhhaaDoor.Pu
set_option linter.unusedSimpArgs false
set_option linter.unusedVariables false
open Go.RowKit Go.Proofs.YtcnoamiidanhhaaDoorW.PrintWords Go.Proofs.YtcnoamiidanhhaaDoor.PA
def memoC (c : Int) : Bool := decide (32 ≤ c ∧ c ≤ 126)
def isMemo (s : ByteArray) : Bool := decide (s.size ≤ 20) && allFrom memoC s 0 s.size
theorem l27Memo_l0 (s : ByteArray) (hs : s.size ≤ 1048576) (d : Nat) : ∀ i : Nat, i + d = s.size → Ev (fun k => spec_l27Memo.l0 k s (i : Int)) (allFrom memoC s i d && decide (s.size ≤ 20)) := by
  induction d with
  | zero =>
    intro i hi
    apply Ev_succ
    simp only [spec_l27Memo.l0, if_neg (show ¬ ((i : Int) < (s.size : Int)) by omega), allFrom, Bool.true_and]
    rw [show decide ((s.size : Int) ≤ 20) = decide (s.size ≤ 20) by simp; omega]
    exact Ev.now _
  | succ d ih =>
    intro i hi
    have h2 := ih (i + 1) (by omega)
    rw [show ((i + 1 : Nat) : Int) = (i : Int) + 1 by omega] at h2
    apply Ev_succ
    simp only [spec_l27Memo.l0, if_pos (show (i : Int) < (s.size : Int) by omega), if_pos (show 0 ≤ (i : Int) by omega), wr (show -9223372036854775808 ≤ (i : Int) + 1 by omega) (by omega)]
    unfold allFrom memoC
    by_cases h1 : bt s (i : Int) < 32
    · simp only [if_pos h1, show ¬ (32 ≤ bt s (i : Int) ∧ bt s (i : Int) ≤ 126) by omega, decide_false, Bool.false_and]
      exact Ev.now _
    · by_cases h3 : bt s (i : Int) > 126
      · simp only [if_neg h1, if_pos h3, show ¬ (32 ≤ bt s (i : Int) ∧ bt s (i : Int) ≤ 126) by omega, decide_false, Bool.false_and]
        exact Ev.now _
      · simp only [if_neg h1, if_neg h3, decide_eq_true (show (32 ≤ bt s (i : Int) ∧ bt s (i : Int) ≤ 126) by omega), Bool.true_and]
        exact h2
theorem l27Memo_eq (s : ByteArray) (hs : s.size ≤ 1048576) : Ev (fun k => spec_l27Memo.f k s) (isMemo s) := by
  unfold spec_l27Memo.f isMemo
  rw [Bool.and_comm]
  exact l27Memo_l0 s hs s.size 0 (by omega)
theorem bytesWithin_l0 (s : ByteArray) (hs : s.size ≤ 1048576) (d : Nat) : ∀ i : Nat, i + d = s.size → Ev (fun k => impl_bytesWithin.l0 k s 32 126 (s.size : Int) (i : Int)) (allFrom memoC s i d) := by
  induction d with
  | zero =>
    intro i hi
    apply Ev_succ
    simp only [impl_bytesWithin.l0, if_neg (show ¬ ((i : Int) < (s.size : Int)) by omega), allFrom]
    exact Ev.now _
  | succ d ih =>
    intro i hi
    have h2 := ih (i + 1) (by omega)
    rw [show ((i + 1 : Nat) : Int) = (i : Int) + 1 by omega] at h2
    apply Ev_succ
    simp only [impl_bytesWithin.l0, if_pos (show (i : Int) < (s.size : Int) by omega), if_pos (show 0 ≤ (i : Int) by omega), wr (show -9223372036854775808 ≤ (i : Int) + 1 by omega) (by omega)]
    unfold allFrom memoC
    by_cases h1 : bt s (i : Int) < 32
    · simp only [if_pos h1, show ¬ (32 ≤ bt s (i : Int) ∧ bt s (i : Int) ≤ 126) by omega, decide_false, Bool.false_and]
      exact Ev.now _
    · by_cases h3 : bt s (i : Int) > 126
      · simp only [if_neg h1, if_pos h3, show ¬ (32 ≤ bt s (i : Int) ∧ bt s (i : Int) ≤ 126) by omega, decide_false, Bool.false_and]
        exact Ev.now _
      · simp only [if_neg h1, if_neg h3, decide_eq_true (show (32 ≤ bt s (i : Int) ∧ bt s (i : Int) ≤ 126) by omega), Bool.true_and]
        exact h2
theorem memoValid_eq (s : ByteArray) (hs : s.size ≤ 1048576) : Ev (fun k => impl_memoValid.f k s) (isMemo s) := by
  unfold impl_memoValid.f isMemo
  by_cases h : s.size ≤ 20
  · simp only [if_pos (show (s.size : Int) ≤ 20 by omega), h, decide_true, Bool.true_and]
    have hb : Ev (fun k => impl_bytesWithin.f k s 32 126) (allFrom memoC s 0 s.size) := bytesWithin_l0 s hs s.size 0 (by omega)
    exact Ev.bind hb (Ev.now _)
  · simp only [if_neg (show ¬ (s.size : Int) ≤ 20 by omega), h, decide_false, Bool.false_and]
    exact Ev.now _
def setT (x : S69) : ByteArray := (((⟨#[32]⟩ : ByteArray) ++ x.f0) ++ (⟨#[61]⟩ : ByteArray)) ++ ⟨(Lib.itoa x.f1).toArray⟩
def memoT (m acc : ByteArray) : ByteArray := if m.toList = ([] : List UInt8) then acc else acc ++ ((⟨#[32, 35, 32]⟩ : ByteArray) ++ m)
def setsT (l : List S69) : Nat → Nat → ByteArray → ByteArray
  | _, 0, acc => acc
  | i, d + 1, acc => setsT l (i + 1) d (acc ++ setT (rd_T69 l i))
theorem one_size (b : UInt8) : (⟨#[b]⟩ : ByteArray).size = 1 := rfl
theorem itoa_sz (n : Int) : (⟨(Lib.itoa n).toArray⟩ : ByteArray).size = (Lib.itoa n).length := size_mk _
theorem sVersionText_l0 (l : List S69) (hl : l.length ≤ 24) (ho : ∀ j : Nat, j < l.length → okSett (rd_T69 l (j : Int)) = true) (a b : Int) (m : ByteArray) (hm : m.size ≤ 20) (d : Nat) :
    ∀ (i : Nat) (acc : ByteArray), i + d = l.length → acc.size + 40 * d ≤ 100000 → Ev (fun k => spec_VersionText.l0 k acc (i : Int) a b m l) (memoT m (setsT l i d acc)) := by
  induction d with
  | zero =>
    intro i acc hi ha
    apply Ev_succ
    simp only [spec_VersionText.l0, if_neg (show ¬ ((i : Int) < (l.length : Int)) by omega), setsT, memoT]
    by_cases h0 : m.toList = ([] : List UInt8)
    · simp only [if_pos h0]
      exact Ev.now _
    · simp only [if_neg h0, if_pos (show 3 + m.size ≤ 9223372036854775807 by omega), ByteArray.size_append, show (⟨#[32, 35, 32]⟩ : ByteArray).size = 3 from rfl, if_pos (show acc.size + (3 + m.size) ≤ 9223372036854775807 by omega)]
      exact Ev.now _
  | succ d ih =>
    intro i acc hi ha
    have hw := okSett_wf (ho i (by omega))
    have hi2 := itoa_length (rd_T69 l (i : Int)).f1 (by omega) (by omega)
    have hsz : (setT (rd_T69 l (i : Int))).size ≤ 40 := by
      unfold setT
      simp only [ByteArray.size_append, one_size, itoa_sz]
      omega
    have h2 := ih (i + 1) (acc ++ setT (rd_T69 l (i : Int))) (by omega) (by rw [ByteArray.size_append]; omega)
    rw [show ((i + 1 : Nat) : Int) = (i : Int) + 1 by omega] at h2
    apply Ev_succ
    simp only [spec_VersionText.l0, if_pos (show (i : Int) < (l.length : Int) by omega), if_pos (show 0 ≤ (i : Int) by omega), wr (show -9223372036854775808 ≤ (i : Int) + 1 by omega) (by omega), ByteArray.size_append, one_size, if_pos (show 1 + (rd_T69 l (i : Int)).f0.size ≤ 9223372036854775807 by omega), if_pos (show 1 + (rd_T69 l (i : Int)).f0.size + 1 ≤ 9223372036854775807 by omega)]
    refine Ev.bind (l01Dec_eq _ (by omega) (by omega)) ?_
    simp only [itoa_sz, if_pos (show 1 + (rd_T69 l (i : Int)).f0.size + 1 + (Lib.itoa (rd_T69 l (i : Int)).f1).length ≤ 9223372036854775807 by omega), if_pos (show acc.size + (1 + (rd_T69 l (i : Int)).f0.size + 1 + (Lib.itoa (rd_T69 l (i : Int)).f1).length) ≤ 9223372036854775807 by omega)]
    exact h2
theorem VersionText_l0 (l : List S69) (hl : l.length ≤ 24) (ho : ∀ j : Nat, j < l.length → okSett (rd_T69 l (j : Int)) = true) (a b : Int) (m : ByteArray) (hm : m.size ≤ 20) (d : Nat) :
    ∀ (i : Nat) (acc : ByteArray), i + d = l.length → acc.size + 40 * d ≤ 100000 → Ev (fun k => impl_VersionText.l0 k acc l (l.length : Int) (i : Int) a b m l) (memoT m (setsT l i d acc)) := by
  induction d with
  | zero =>
    intro i acc hi ha
    apply Ev_succ
    simp only [impl_VersionText.l0, if_neg (show ¬ ((i : Int) < (l.length : Int)) by omega), setsT, memoT]
    by_cases h0 : m.toList = ([] : List UInt8)
    · simp only [if_pos h0]
      exact Ev.now _
    · simp only [if_neg h0, if_pos (show 3 + m.size ≤ 9223372036854775807 by omega), ByteArray.size_append, show (⟨#[32, 35, 32]⟩ : ByteArray).size = 3 from rfl, if_pos (show acc.size + (3 + m.size) ≤ 9223372036854775807 by omega)]
      exact Ev.now _
  | succ d ih =>
    intro i acc hi ha
    have hw := okSett_wf (ho i (by omega))
    have hi2 := itoa_length (rd_T69 l (i : Int)).f1 (by omega) (by omega)
    have hsz : (setT (rd_T69 l (i : Int))).size ≤ 40 := by
      unfold setT
      simp only [ByteArray.size_append, one_size, itoa_sz]
      omega
    have h2 := ih (i + 1) (acc ++ setT (rd_T69 l (i : Int))) (by omega) (by rw [ByteArray.size_append]; omega)
    rw [show ((i + 1 : Nat) : Int) = (i : Int) + 1 by omega] at h2
    apply Ev_succ
    simp only [impl_VersionText.l0, if_pos (show (i : Int) < (l.length : Int) by omega), if_pos (show 0 ≤ (i : Int) by omega), wr (show -9223372036854775808 ≤ (i : Int) + 1 by omega) (by omega), ByteArray.size_append, one_size, if_pos (show 1 + (rd_T69 l (i : Int)).f0.size ≤ 9223372036854775807 by omega), if_pos (show 1 + (rd_T69 l (i : Int)).f0.size + 1 ≤ 9223372036854775807 by omega), Decimal_eq _ (show -9223372036854775808 ≤ (rd_T69 l (i : Int)).f1 by omega) (by omega), Option.bind_some, itoa_sz, if_pos (show 1 + (rd_T69 l (i : Int)).f0.size + 1 + (Lib.itoa (rd_T69 l (i : Int)).f1).length ≤ 9223372036854775807 by omega), if_pos (show acc.size + (1 + (rd_T69 l (i : Int)).f0.size + 1 + (Lib.itoa (rd_T69 l (i : Int)).f1).length) ≤ 9223372036854775807 by omega)]
    exact h2
def okVersion (a b : Int) (m : ByteArray) (l : List S69) : Bool := decide (1 ≤ a ∧ a ≤ 32) && (decide (0 ≤ b ∧ b ≤ a - 1) && (isMemo m && okState l))
def verT (a b : Int) (m : ByteArray) (l : List S69) : ByteArray :=
  if okVersion a b m l = true then memoT m (setsT l 0 l.length ((⟨(Lib.itoa a).toArray⟩ ++ (⟨#[60]⟩ : ByteArray)) ++ ⟨(Lib.itoa b).toArray⟩)) else ⟨#[]⟩
theorem okVersion_wf {a b : Int} {m : ByteArray} {l : List S69} (h : okVersion a b m l = true) : 1 ≤ a ∧ a ≤ 32 ∧ 0 ≤ b ∧ b ≤ a - 1 ∧ m.size ≤ 20 ∧ l.length ≤ 24 ∧ ∀ j : Nat, j < l.length → okSett (rd_T69 l (j : Int)) = true := by
  simp only [okVersion, isMemo, okState, Bool.and_eq_true, decide_eq_true_eq] at h
  obtain ⟨⟨h1, h2⟩, ⟨h3, h4⟩, ⟨h5, _⟩, h6, h7⟩ := h
  exact ⟨h1, h2, h3, h4, h5, h6, fun j hj => okFrom_wf l l.length 0 (by omega) h7 j (by omega) hj⟩
theorem sVersionText_eq (a b : Int) (m : ByteArray) (l : List S69) (hm : m.size ≤ 1048576) (hl : l.length ≤ 1048576) (hn : ∀ x ∈ l, x.f0.size ≤ 1048576) : Ev (fun k => spec_VersionText.f k a b m l) (verT a b m l) := by
  have hj : Ev (fun k => spec_VersionText.j0 k true a b m l) ⟨#[]⟩ := by
    apply Ev_succ
    simp only [spec_VersionText.j0, if_true]
    exact Ev.now _
  unfold spec_VersionText.f verT
  simp only [l00In_eq, Option.bind_some]
  by_cases h1 : 1 ≤ a ∧ a ≤ 32
  · rw [wr (show -9223372036854775808 ≤ a - 1 by omega) (by omega)]
    by_cases h2 : 0 ≤ b ∧ b ≤ a - 1
    · simp only [decide_eq_true h1, decide_eq_true h2, if_true]
      refine Ev.bind (l27Memo_eq m hm) ?_
      cases h3 : isMemo m with
      | false =>
        simp only [Bool.false_eq_true, if_false, okVersion, h3, Bool.false_and, Bool.and_false]
        exact hj
      | true =>
        simp only [if_true]
        refine Ev.bind (l27State_eq l hl hn) ?_
        cases h4 : okState l with
        | false =>
          simp only [Bool.not_false, Bool.false_eq_true, if_false, okVersion, h4, Bool.and_false]
          exact hj
        | true =>
          have hok : okVersion a b m l = true := by simp only [okVersion, h3, h4, decide_eq_true h1, decide_eq_true h2, Bool.and_self]
          obtain ⟨_, _, _, _, w5, w6, w7⟩ := okVersion_wf hok
          have i1 := itoa_length a (by omega) (by omega)
          have i2 := itoa_length b (by omega) (by omega)
          simp only [hok, if_true, Bool.not_true]
          apply Ev_succ
          simp only [spec_VersionText.j0, Bool.false_eq_true, if_false]
          refine Ev.bind (l01Dec_eq a (by omega) (by omega)) ?_
          simp only [itoa_sz, if_pos (show (Lib.itoa a).length + 1 ≤ 9223372036854775807 by omega)]
          refine Ev.bind (l01Dec_eq b (by omega) (by omega)) ?_
          simp only [ByteArray.size_append, one_size, itoa_sz, if_pos (show (Lib.itoa a).length + 1 + (Lib.itoa b).length ≤ 9223372036854775807 by omega)]
          have hX : (((⟨(Lib.itoa a).toArray⟩ ++ (⟨#[60]⟩ : ByteArray)) ++ ⟨(Lib.itoa b).toArray⟩) : ByteArray).size + 40 * l.length ≤ 100000 := by
            simp only [ByteArray.size_append, one_size, itoa_sz]
            omega
          exact sVersionText_l0 l w6 w7 a b m w5 l.length 0 _ (by omega) hX
    · simp only [decide_eq_true h1, decide_eq_false h2, if_true, Bool.false_eq_true, if_false, okVersion, Bool.false_and, Bool.and_false]
      exact hj
  · simp only [decide_eq_false h1, Bool.false_eq_true, if_false, okVersion, Bool.false_and]
    exact hj
theorem VersionText_eq (a b : Int) (m : ByteArray) (l : List S69) (hm : m.size ≤ 1048576) (hl : l.length ≤ 1048576) (hn : ∀ x ∈ l, x.f0.size ≤ 1048576) : Ev (fun k => impl_VersionText.f k a b m l) (verT a b m l) := by
  have hj : Ev (fun k => impl_VersionText.j0 k true a b m l) ⟨#[]⟩ := by
    apply Ev_succ
    simp only [impl_VersionText.j0, if_true]
    exact Ev.now _
  unfold impl_VersionText.f verT
  simp only [within_eq, Option.bind_some]
  by_cases h1 : 1 ≤ a ∧ a ≤ 32
  · rw [wr (show -9223372036854775808 ≤ a - 1 by omega) (by omega)]
    by_cases h2 : 0 ≤ b ∧ b ≤ a - 1
    · simp only [decide_eq_true h1, decide_eq_true h2, if_true]
      refine Ev.bind (memoValid_eq m hm) ?_
      cases h3 : isMemo m with
      | false =>
        simp only [Bool.false_eq_true, if_false, okVersion, h3, Bool.false_and, Bool.and_false]
        exact hj
      | true =>
        simp only [if_true]
        refine Ev.bind (ValidState_eq l hl hn) ?_
        cases h4 : okState l with
        | false =>
          simp only [Bool.not_false, Bool.false_eq_true, if_false, okVersion, h4, Bool.and_false]
          exact hj
        | true =>
          have hok : okVersion a b m l = true := by simp only [okVersion, h3, h4, decide_eq_true h1, decide_eq_true h2, Bool.and_self]
          obtain ⟨_, _, _, _, w5, w6, w7⟩ := okVersion_wf hok
          have i1 := itoa_length a (by omega) (by omega)
          have i2 := itoa_length b (by omega) (by omega)
          simp only [hok, if_true, Bool.not_true]
          apply Ev_succ
          simp only [impl_VersionText.j0, Bool.false_eq_true, if_false, Decimal_eq a (by omega) (by omega), Decimal_eq b (by omega) (by omega), Option.bind_some, ByteArray.size_append, one_size, itoa_sz, if_pos (show (Lib.itoa a).length + 1 ≤ 9223372036854775807 by omega), if_pos (show (Lib.itoa a).length + 1 + (Lib.itoa b).length ≤ 9223372036854775807 by omega)]
          have hX : (((⟨(Lib.itoa a).toArray⟩ ++ (⟨#[60]⟩ : ByteArray)) ++ ⟨(Lib.itoa b).toArray⟩) : ByteArray).size + 40 * l.length ≤ 100000 := by
            simp only [ByteArray.size_append, one_size, itoa_sz]
            omega
          exact VersionText_l0 l w6 w7 a b m w5 l.length 0 _ (by omega) hX
    · simp only [decide_eq_true h1, decide_eq_false h2, if_true, Bool.false_eq_true, if_false, okVersion, Bool.false_and, Bool.and_false]
      exact hj
  · simp only [decide_eq_false h1, Bool.false_eq_true, if_false, okVersion, Bool.false_and]
    exact hj
theorem lawW (a b : Int) (m : ByteArray) (l : List S99) (_ : (Lit.int .i64 a).wf = true) (_ : (Lit.int .i64 b).wf = true) (hm : m.size ≤ 9223372036854775807)
    (hl : l.length ≤ 9223372036854775807 ∧ ∀ x ∈ l, x.f0.size ≤ 9223372036854775807 ∧ (Lit.int .i64 x.f1).wf = true) : ∃ n, laws_FnExactVersionText.f n a b m l = some true := by
  have hz : Ev (fun n => laws_FnExactVersionText.f n a b m l) true := by
    unfold laws_FnExactVersionText.f laws_szVersion.f
    rw [wr (show -9223372036854775808 ≤ (1048576 : Int) - (m.size : Int) by omega) (by omega)]
    by_cases h1 : (1048576 : Int) - (m.size : Int) < 0
    · simp only [if_pos h1, Option.bind_some, show (-1 : Int) < 0 from by omega, if_true]
      exact Ev.now _
    · simp only [if_neg h1]
      obtain ⟨r, hr, hle, hw⟩ := szSettingS_eq l hl.1 (fun x hx => (hl.2 x hx).1) (1048576 - (m.size : Int)) (by omega) (by omega)
      by_cases h2 : r < 0
      · have hr2 : Ev (fun k => (laws_szSettingS.f k l (1048576 - (m.size : Int))).bind fun t105 => if t105 < 0 then some (-1) else some t105) (-1 : Int) := by
          refine Ev.bind hr ?_
          simp only [if_pos h2]
          exact Ev.now _
        refine Ev.bind hr2 ?_
        simp only [show (-1 : Int) < 0 from by omega, if_true]
        exact Ev.now _
      · have hr2 : Ev (fun k => (laws_szSettingS.f k l (1048576 - (m.size : Int))).bind fun t105 => if t105 < 0 then some (-1) else some t105) r := by
          refine Ev.bind hr ?_
          simp only [if_neg h2]
          exact Ev.now _
        obtain ⟨hlen, hns⟩ := hw (by omega)
        have hlm : (l.map cSet).length ≤ 1048576 := by rw [List.length_map]; exact hlen
        have hnm : ∀ x ∈ l.map cSet, x.f0.size ≤ 1048576 := fun x hx => by
          obtain ⟨y, hy, rfl⟩ := List.mem_map.1 hx
          exact hns y hy
        have ht : Ev (fun k => laws_toVersion.f k a b m l) (a, b, m, l.map cSet) := by
          unfold laws_toVersion.f
          exact Ev.bind (toSettingS_eq l hlen) (Ev.now _)
        refine Ev.bind hr2 ?_
        simp only [if_neg h2]
        refine Ev.bind ht ?_
        refine Ev.bind (sVersionText_eq a b m (l.map cSet) (by omega) hlm hnm) ?_
        refine Ev.bind ht ?_
        refine Ev.bind (VersionText_eq a b m (l.map cSet) (by omega) hlm hnm) ?_
        simp only [if_true]
        refine Ev.bind ht ?_
        have he : Ev (fun k => laws_eqVersion.f k a b m (l.map cSet) a b m (l.map cSet)) true := by
          unfold laws_eqVersion.f
          simp only [if_true]
          refine Ev.bind (eqSettingS_eq (l.map cSet) hlm) ?_
          simp only [if_true]
          exact Ev.now _
        refine Ev.bind he ?_
        simp only [if_true]
        exact Ev.now _
  exact hz.rounds
end Go.Proofs.YtcnoamiidanhhaaDoor.Pu
end
section
namespace Go.Proofs.YtcnoamiidanhhaaDoor.fnExactVersionText
open Go.ChangeShapes Go.WideShapes Go.ChangeAt Go.RowKit Go.Proofs.YtcnoamiidanhhaaDoorY Go.Proofs.YtcnoamiidanhhaaDoorW.PrintWords Go.Proofs.YtcnoamiidanhhaaDoor.PA
open Go.ChangeMaps (open_string shut_string)
set_option linter.unusedVariables false
theorem own : ownKnob Tryd.prog.godebug = none := by kernel_rfl
theorem laidOut : laidOutB Tryd.prog = true := by kernel_rfl
theorem op99 {w : World} : Opens Tryd.prog w 99 k99 (fun b => (b.f0.size ≤ 9223372036854775807 ∧ (Lit.int .i64 b.f1).wf = true)) := Opens.struct (P := Tryd.prog) (w := w) (f := fun x : S99 => (x.f0, x.f1)) (fun a => S99.mk a.1 a.2) (fun _ => rfl) Tryd.underlying99 (by kernel_rfl) (OpensL.cons (Opens.string (w := w) Tryd.underlying9 (by kernel_rfl)) rfl (OpensL.last (Opens.int (w := w) Tryd.underlying2 (by kernel_rfl)) rfl))
def laid : List (String × DataW Unit) := [("math/bits.deBruijn32tab", Rows.laid_math_bits_deBruijn32tab), ("math/bits.deBruijn64tab", Rows.laid_math_bits_deBruijn64tab), ("internal/strconv.uint64pow10", Rows.laid_internal_strconv_uint64pow10)]
theorem door_met (os : Os) (args : Array Value) : laidMetH Tryd.prog laid ((World.doorLaid Tryd.prog 400 os).forCall (fun _ _ => 0) ⟨#[], args, []⟩).memory :=
  laidMetH_of_parts3 (fuel := 8) (laidMet_of_run' 8 (by kernel_rfl) (by kernel_rfl)) (by kernel_rfl) (by kernel_rfl)
theorem lv_of {W : World} (h : laidMetH Tryd.prog laid W) : Lv W :=
  ⟨tab_laid (zs := Lib.pow10Tab) (n := 20) (by rw [show (Lib.tabData .u64 Lib.pow10Tab : DataW Unit) = Rows.laid_internal_strconv_uint64pow10 by kernel_rfl]; simp [laid]) (show Tryd.prog.globalNamed "internal/strconv.uint64pow10" = some 0 by kernel_rfl) (by kernel_rfl) Tryd.underlying135 Tryd.underlying108 (by kernel_rfl) (by kernel_rfl) h (by kernel_rfl)⟩
set_option maxRecDepth 100000 in
theorem lifted (os : Os) (started : os.Started) (H : Type) (enc : TypeId × Value → H) :
    ReturnsInHanded {} Tryd.checked os 3 .any (fun w args => (Rows.fnExactVersionTextSpec.pre enc Tryd.prog Tryd.f3 [] false w args ∧ laidMetH Tryd.prog laid w) ∧ sizedMet enc Tryd.prog Tryd.f3 (OpenSpec.ofChange Rows.fnExactVersionTextSpec) false w args)
      (Rows.fnExactVersionTextSpec.post enc Tryd.prog Tryd.f3 false true false false) := by
  refine returnsInHanded_of_change_and (C := Tryd.checked) (X := fun w _ => laidMetH Tryd.prog laid w) (fun _ _ _ hh h => h.of_heap hh) own started (by kernel_rfl) Tryd.func3
    (ChangeSpec.witness_shaped (enc := enc) (C := Tryd.checked) (os := os) (X := fun w _ => laidMetH Tryd.prog laid w) false (World.doorLaid Tryd.prog 400 os) #[.agg #[.int .i64 0, .int .i64 0, .string ⟨#[]⟩, .slice none 0 0]] 8 rfl (World.shaped_of_RefB (by kernel_rfl) (by kernel_rfl)) (by kernel_rfl) (by kernel_rfl) (by kernel_rfl) (door_met os _)) ?_
  intro W base args ds gs before hval0 hW _ hsz0 hL _
  have hval : ∀ (j : Nat) t v, Tryd.f3.params[j]? = some t → args[j]? = some v → Value.okWide Tryd.prog W .any base t v := hval0
  have hW' := hW
  obtain ⟨p, q, hA0, hV, rfl, hfz, hnd⟩ := hW
  have hA : DataW.TrodAll enc Tryd.prog W 0 (fun _ => true) true Tryd.f3.params.toList args.toList ds p := hA0
  rw [Tryd.params3] at hA hval
  obtain ⟨v0, vs0, d0, ds0, p0, q0, hargs, rfl, rfl, h0, r0⟩ := trodAll_cons hA
  obtain ⟨rfl, rfl, rfl⟩ := trodAll_nil r0
  obtain rfl : args = #[v0] := by cases args; simp_all
  obtain ⟨rfl, rfl⟩ := trodVars_none hV
  have k0 := h0
  have lt0 : ∀ x ∈ p0, x.block < W.heap.size := by obtain ⟨m, hm⟩ := k0; exact DataW.trod_lt m _ _ _ hm
  obtain ⟨cs0, rfl, _⟩ := okWide_struct Tryd.underlying24 (hval 0 24 v0 rfl rfl)
  obtain ⟨fu0, hf0⟩ := h0
  obtain ⟨cl0⟩ := cs0
  obtain ⟨x0, hK0, hw0⟩ := (Opens.struct (P := Tryd.prog) (w := W) (f := fun x => x) (fun a => a) (fun _ => rfl) Tryd.underlying24 (by kernel_rfl) (OpensL.cons (Opens.int (w := W) Tryd.underlying2 (by kernel_rfl)) rfl (OpensL.cons (Opens.int (w := W) Tryd.underlying2 (by kernel_rfl)) rfl (OpensL.cons (Opens.string (w := W) Tryd.underlying9 (by kernel_rfl)) rfl (OpensL.last (Opens.slice (w := W) Tryd.underlying22 (by kernel_rfl) (op99 (w := W))) rfl))))).2 _ _ _ _ _ _ _ _ hf0
  obtain ⟨y0_0, y0_1, y0_2, y0_3⟩ := x0
  obtain ⟨w0_0, w0_1, w0_2, w0_3⟩ := hw0
  simp only [Value.cells] at hK0
  obtain ⟨_, _, hq0_0, rfl, ⟨_, _, hq0_1, rfl, ⟨_, _, hq0_2, rfl, ⟨A0_3, c0_3, rfl, hc0_3, hr0_3⟩⟩⟩⟩ := hK0
  subst hq0_2
  subst hq0_1
  replace hq0_0 : cl0 = [.int .i64 y0_0, .int .i64 y0_1, .string y0_2, .slice A0_3 y0_3.length c0_3] := hq0_0
  subst hq0_0
  have hLv := lv_of hL
  clear hA0 hval0 hsz0
  obtain ⟨k, hk⟩ := Pu.lawW y0_0 y0_1 y0_2 y0_3 w0_0 w0_1 w0_2 w0_3
  refine (laws_FnExactVersionText.calls k y0_0 y0_1 y0_2 A0_3 c0_3 y0_3 true W hr0_3 hc0_3 hLv hk).mono fun e W' ⟨he, bel⟩ => ?_
  subst he
  exact ⟨_, rfl, _, _, _, [], _, [], hW', trodAll_mk1 (shut_bool (show Tryd.prog.underlying 4 = some .bool by kernel_rfl) _), (trodAll_cons_mk (Below.trod laidOut (by kernel_rfl) (of_decide_eq_true (by kernel_rfl)) k0 bel lt0) trodAll_mk0), rfl, bel.frame _, fun h => by cases h⟩
theorem over : Rows.fnExactVersionTextRow.holds Tryd.pinned (OpenSpec.ofChange Rows.fnExactVersionTextSpec) :=
  OpenClaim.holds_of_wide 3 Tryd.f3 rfl rfl rfl rfl rfl rfl rfl ⟨rfl, rfl, rfl, rfl, rfl⟩ rfl rfl rfl rfl rfl (by kernel_rfl) Tryd.func3 (by kernel_rfl)
    (of_decide_eq_true (by kernel_rfl)) (by unfold Func.isWrapper; first | (rw [if_pos (by decide +kernel)]; kernel_rfl) | (rw [if_neg (by decide +kernel)]; exact ⟨rfl, rfl⟩))
    (fun os started H enc _ => lifted os started H enc)
end Go.Proofs.YtcnoamiidanhhaaDoor.fnExactVersionText
namespace Go.Proofs.YtcnoamiidanhhaaDoor
theorem fnExactVersionText_row_holds : Rows.FnExactVersionTextSaid := fnExactVersionText.over
theorem fnExactVersionText_card : Rows.FnExactVersionTextCardSaid :=
  Claim7.holds_tied_plain_at .later [] [.data, .data, .data] true (true, "092b0d42eb87ac6a554b0a34482b6b9462ba3b1e1902c5c9fe011df3ace5418c") false
    fnExactVersionText_row_holds (fun _ h => by cases h) (by kernel_rfl) (fun _ h => by cases h) fnExactVersionText_row_tie rfl ⟨rfl, rfl⟩ (by kernel_rfl) rfl
    (fun f fn hf hfn => by
      obtain rfl : f = 3 := Option.some.inj ((show Tryd.prog.funcNamed "loop.example/g01033/laws.FnExactVersionText" = some 3 by kernel_rfl).symm.trans hf) |>.symm
      obtain rfl : fn = Tryd.f3 := (Option.some.inj (Tryd.func3.symm.trans hfn)).symm
      exact ⟨by kernel_rfl, fun j t ht => by
        rw [Tryd.params3] at ht
        have hm : t ∈ [24] := by simpa using Array.mem_of_getElem? ht
        have hall : ([24].all fun u => !Tryd.prog.wantsStandIn u) = true := by kernel_rfl
        exact (show Tryd.prog.wantsStandIn t = false by simpa using List.all_eq_true.1 hall t hm)⟩)
    (by kernel_rfl)
end Go.Proofs.YtcnoamiidanhhaaDoor
end
#print axioms Go.Proofs.YtcnoamiidanhhaaDoor.fnExactVersionText_card
