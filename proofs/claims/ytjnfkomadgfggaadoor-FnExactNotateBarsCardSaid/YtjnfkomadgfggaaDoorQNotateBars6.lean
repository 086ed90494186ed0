/- What is proved: fnExactNotateBars_card, without further conditions; this text holds part 7 of 7 of its proof. -/
import Derived.ProofKit
import Derived.LaidMore
import Derived.OpenShut
import Derived.ShutString
import Derived.ChangeOld
import Derived.Below
import Derived.SizedLaws
import Derived.Stop.Joined
import Derived.Lib.LaidTab
import Derived.Deep.Slices
import Derived.Shelf.Vars
import Derived.Test.YtjnfkomadgfggaaDoorTie
import Derived.Test.YtjnfkomadgfggaaDoorCards
import Derived.WalkKit
import Derived.Test.YtjnfkomadgfggaaDoorQNotateBars5
section
namespace Go.Proofs.YtjnfkomadgfggaaDoorY
open Go.RowKit Go.ChangeShapes Go.Proofs.YtjnfkomadgfggaaDoorW.PrintWords
def Opens (P : Program) (w : World) (t : TypeId) {α : Type} (d : Kd α) (wf : α → Prop) : Prop :=
  P.cellsOf t = d.sz ∧ ∀ (H : Type) (enc : TypeId × Value → H) (base : Nat) (sp : Nat → Bool) (held : Bool) (fuel : Nat) (cs : List Value) (x : DataW H × List MemPlace),
    DataW.trod enc P w base sp held fuel t cs = some x → ∃ a, d.K w a cs ∧ wf a
section
variable {P : Program} {w : World}
theorem Opens.int {t : TypeId} {k : IntKind} (ht : P.underlying t = some (.int k)) (hc : P.cellsOf t = 1) : Opens P w t (Kd.int k) (fun n => (Lit.int k n).wf = true) :=
  ⟨hc, fun H enc base sp held fuel cs x h => by
    obtain ⟨n, rfl, _, hw⟩ := DataW.trod_int ht h
    exact ⟨n, rfl, hw⟩⟩
theorem Opens.bool {t : TypeId} (ht : P.underlying t = some .bool) (hc : P.cellsOf t = 1) : Opens P w t Kd.bool (fun _ => True) :=
  ⟨hc, fun H enc base sp held fuel cs x h => by
    obtain ⟨b, rfl, _⟩ := DataW.trod_bool ht h
    exact ⟨b, rfl, trivial⟩⟩
theorem Opens.string {t : TypeId} (ht : P.underlying t = some .string) (hc : P.cellsOf t = 1) : Opens P w t Kd.string (fun s => s.size ≤ 9223372036854775807) :=
  ⟨hc, fun H enc base sp held fuel cs x h => by
    obtain ⟨s, rfl, _, hs⟩ := DataW.trod_string ht h
    exact ⟨s, rfl, hs⟩⟩
theorem choose_list {α : Type} {p : Nat → α → Prop} : ∀ (n : Nat), (∀ i, i < n → ∃ a, p i a) → ∃ l : List α, l.length = n ∧ ∀ i a, l[i]? = some a → p i a
  | 0, _ => ⟨[], rfl, fun i a h => by simp at h⟩
  | n + 1, h => by
    obtain ⟨l, hl, hp⟩ := choose_list n (fun i hi => h i (by omega))
    obtain ⟨a, ha⟩ := h n (by omega)
    refine ⟨l ++ [a], by simp [hl], fun i b hb => ?_⟩
    by_cases hi : i < n
    · rw [List.getElem?_append_left (by omega)] at hb
      exact hp i b hb
    · rw [List.getElem?_append_right (by omega)] at hb
      have h0 : i - l.length = 0 := by
        rcases Nat.eq_zero_or_pos (i - l.length) with h | h
        · exact h
        · rw [List.getElem?_eq_none (by simp; omega)] at hb; cases hb
      rw [h0] at hb
      simp at hb
      subst hb
      have : i = n := by omega
      subst this
      exact ha
theorem Opens.slice {t e : TypeId} {α : Type} {d : Kd α} {wf : α → Prop} (ht : P.underlying t = some (.slice e)) (hc : P.cellsOf t = 1) (o : Opens P w e d wf) :
    Opens P w t (Kd.slice e d) (fun l => l.length ≤ 9223372036854775807 ∧ ∀ a ∈ l, wf a) :=
  ⟨hc, fun H enc base sp held fuel cs x h => by
    rcases Go.Deep.open_slice ht h with ⟨rfl, _⟩ | ⟨a, len, cap, m, n, D, Pl, rfl, _, hl, hm, hmm, _, hx⟩
    · exact ⟨[], ⟨none, 0, rfl, Nat.le_refl _, rfl, by simp, fun h => absurd h (by simp)⟩, by simp, by simp⟩
    · have hle : len ≤ m := by rw [hmm]; split <;> omega
      have hmx : cap ≤ 9223372036854775807 := hm
      obtain ⟨l, hlen, hp⟩ := choose_list (p := fun i y => (∃ c, c.length = d.sz ∧ d.K w y c ∧ ∀ j u, c[j]? = some u → w.cell? (a.add (i * d.sz + j)) = some u) ∧ wf y) len (fun i hi => by
        obtain ⟨cs', h1, h2⟩ := hx i (by omega)
        obtain ⟨y, hK, hw⟩ := o.2 H enc base sp held n cs' _ h2
        obtain ⟨_, hl', hcell⟩ := World.cells?_some h1
        rw [o.1] at hl' hcell
        refine ⟨y, ⟨cs', hl', hK, fun j u hu => ?_⟩, hw⟩
        have hj : j < d.sz := by
          rcases Nat.lt_or_ge j cs'.length with h | h
          · omega
          · rw [List.getElem?_eq_none h] at hu; cases hu
        have := hcell j hj
        rw [add_add] at this
        rw [this, hu])
      refine ⟨l, ⟨some a, cap, by rw [hlen], by omega, ⟨rfl, by omega, fun _ => ⟨a, rfl, fun j y hy => (hp j y hy).1⟩⟩⟩, by omega, fun y hy => ?_⟩
      obtain ⟨i, hi⟩ := List.mem_iff_getElem?.1 hy
      exact (hp i y hi).2⟩
def OpensL (P : Program) (w : World) (fs : List Field) (off : Nat) {α : Type} (d : Kd α) (wf : α → Prop) : Prop :=
  ∀ (H : Type) (enc : TypeId × Value → H) (base : Nat) (sp : Nat → Bool) (held : Bool) (fuel : Nat) (cs : List Value),
    (∀ f ∈ fs, ∃ x, DataW.trod enc P w base sp held fuel f.type ((cs.drop f.offset).take (P.cellsOf f.type)) = some x) → cs.length = off + d.sz → ∃ a, d.K w (a : α) (cs.drop off) ∧ wf a
theorem OpensL.last {f : Field} {off : Nat} {α : Type} {d : Kd α} {wf : α → Prop} (o : Opens P w f.type d wf) (ho : f.offset = off) : OpensL P w [f] off d wf := by
  intro H enc base sp held fuel cs h hl
  obtain ⟨x, hx⟩ := h f (List.mem_singleton.2 rfl)
  rw [o.1, ho, List.take_of_length_le (by simp; omega)] at hx
  exact o.2 _ _ _ _ _ _ _ _ hx
theorem OpensL.cons {f : Field} {fs : List Field} {off : Nat} {α β : Type} {d : Kd α} {e : Kd β} {wf : α → Prop} {wf' : β → Prop} (o : Opens P w f.type d wf) (ho : f.offset = off) (r : OpensL P w fs (off + d.sz) e wf') :
    OpensL P w (f :: fs) off (Kd.pair d e) (fun p => wf p.1 ∧ wf' p.2) := by
  intro H enc base sp held fuel cs h hl
  have hs : (Kd.pair d e).sz = d.sz + e.sz := rfl
  obtain ⟨x, hx⟩ := h f (List.mem_cons_self ..)
  obtain ⟨b, hb, hwb⟩ := r H enc base sp held fuel cs (fun g hg => h g (List.mem_cons_of_mem _ hg)) (by omega)
  rw [o.1, ho] at hx
  obtain ⟨a, ha, hwa⟩ := o.2 _ _ _ _ _ _ _ _ hx
  refine ⟨(a, b), ⟨(cs.drop off).take d.sz, cs.drop (off + d.sz), ?_, ?_, ?_⟩, hwa, hwb⟩
  all_goals first
    | exact ha
    | exact hb
    | (rw [← List.drop_drop, List.take_append_drop])
theorem Opens.struct {t : TypeId} {fs : Array Field} {α β : Type} {d : Kd α} {wf : α → Prop} {f : β → α} (g : α → β) (hg : ∀ a, f (g a) = a) (ht : P.underlying t = some (.struct fs)) (hc : P.cellsOf t = d.sz) (o : OpensL P w fs.toList 0 d wf) :
    Opens P w t (Kd.iso d f) (fun b => wf (f b)) :=
  ⟨hc, fun H enc base sp held fuel cs x h => by
    obtain ⟨xs, n, _, _, hl, hn, hf⟩ := DataW.trod_struct ht h
    obtain ⟨a, ha, hw⟩ := o H enc base sp held n cs (fun f hm => by
      obtain ⟨i, hi⟩ := List.mem_iff_getElem?.1 hm
      have hi' : fs[i]? = some f := by rw [← hi, Array.getElem?_toList]
      have := hf i f hi'
      have hlt : i < xs.length := by
        rcases Nat.lt_or_ge i fs.size with h | h
        · omega
        · rw [Array.getElem?_eq_none h] at hi'; cases hi'
      rw [List.getElem?_eq_getElem hlt] at this
      exact ⟨_, this⟩) (by rw [hl, hc]; omega)
    have e : f (g a) = a := hg a
    exact ⟨g a, by show d.K w (f (g a)) cs; rw [e]; exact ha, by show wf (f (g a)); rw [e]; exact hw⟩⟩
theorem laid_mem {laid : List (String × DataW Unit)} {n : String} {d : DataW Unit} (hm : (n, d) ∈ laid) : ∀ {ps : List MemPlace}, DataW.LaidVars P w laid ps →
    ∃ g t cs fuel p, P.globalNamed n = some g ∧ (P.globals[g]?).map (·.type) = some t ∧ w.var? P n = some cs ∧ DataW.trod (fun _ => ()) P w 0 (fun _ => true) false fuel t cs.toList = some (d, p) := by
  induction laid with
  | nil => cases hm
  | cons a l ih =>
    obtain ⟨m, e⟩ := a
    rintro ps ⟨g, t, cs, fuel, p, q, h1, h2, h3, h4, h5, _⟩
    rcases List.mem_cons.1 hm with h | h
    · cases h
      exact ⟨g, t, cs, fuel, p, h1, h2, h3, h4⟩
    · exact ih h h5
theorem tab_laid {laid : List (String × DataW Unit)} {name : String} {k : IntKind} {zs : List Int} (hm : (name, Lib.tabData k zs) ∈ laid) {g : Nat} {t e : TypeId} {n : Nat}
    (hg : P.globalNamed name = some g) (hty : (P.globals[g]?).map (·.type) = some t) (ht : P.underlying t = some (.array n e)) (he : P.underlying e = some (.int k)) (hce : P.cellsOf e = 1) (hct : P.cellsOf t = n)
    (h : laidMetH P laid w) (hp : (laid.all fun x => x.2.handleName?.isNone) = true) : Lib.TabIs P w name k zs := by
  rw [MakeChecks.laidMetH_plain _ _ _ hp] at h
  obtain ⟨ps, hv, _⟩ := h
  obtain ⟨g', t', cs, fuel, p, hg', ht', hvar, hd⟩ := laid_mem hm hv
  obtain rfl := Option.some.inj (hg.symm.trans hg')
  obtain rfl := Option.some.inj (hty.symm.trans ht')
  unfold Lib.TabIs
  rw [hvar, ← Lib.cells_of_tab ht he hce hct hd]
end
theorem handed_shaped {H : Type} {enc : TypeId × Value → H} {a : Assume} {C : Checked} {os : Os} {f : FuncId} {fn : Func} {s : ChangeSpec} {conds : List PathCond} {apart fresh handsOn again : Bool} {X : World → Array Value → Prop}
    (hX : ∀ (w w' : World) (args : Array Value), w.heap = w'.heap → X w args → X w' args)
    (own : ownKnob C.prog.godebug = none) (started : os.Started) (noInit : C.prog.inits.idxOf? f = none) (hfn : C.prog.funcs[f]? = some fn)
    (witness : ∃ (w : World) (tape : Tape) (i : Input), w.os = os ∧ (w.forCall tape i).Shaped C.prog ∧ i.vars = [] ∧ Input.okWide C.prog (w.forCall tape i) .any w.heap.size f i ∧
      ((s.pre enc C.prog fn conds apart (w.forCall tape i).memory i.args ∧ X (w.forCall tape i).memory i.args) ∧ sizedMet enc C.prog fn (OpenSpec.ofChange s) apart (w.forCall tape i).memory i.args) ∧ a.holds C.prog (lone (Frame.enter C.prog f i.args .normal) [] (w.forCall tape i)))
    (contract : ∀ (W : World) (base : Nat) (args : Array Value) (ds gs : List (DataW H)) (before : List MemPlace),
      (∀ (j : Nat) t v, fn.params[j]? = some t → args[j]? = some v → Value.okWide C.prog W .any base t v) →
      DataW.Whole enc C.prog fn.params.toList s.vars apart W args.toList ds gs before →
      conds.all (PathCond.test C.prog ⟨fn.params.toList, ds, s.plain.varTypes C.prog, gs⟩) = true →
      (DataW.weightsEach C.prog (fn.params.toList ++ s.plain.varTypes C.prog) (ds ++ gs)).all (· ≤ reachBytes) = true → X W args → W.ShapedOpen C.prog →
      a.holds C.prog (lone (Frame.enter C.prog f args .normal) [] W) →
      Calls C.prog f args W fun e W' => ∃ v, e = .returned v ∧ s.post enc C.prog fn apart fresh handsOn again W args v W') :
    ReturnsInHanded a C os f .any (fun w args => (s.pre enc C.prog fn conds apart w args ∧ X w args) ∧ sizedMet enc C.prog fn (OpenSpec.ofChange s) apart w args) (s.post enc C.prog fn apart fresh handsOn again) := by
  refine returnsInHanded_of_calls own started noInit witness ?_
  intro w tape i _ hsh _ hok hpre hholds
  obtain ⟨_, _, _, fn', hfn', _, _, _, _, hval⟩ := hok
  have e : fn' = fn := Option.some.inj (hfn'.symm.trans hfn)
  subst e
  obtain ⟨⟨⟨ds, gs, before, hw, hc⟩, hx⟩, hz⟩ := hpre
  have hw' := DataW.Whole.of_heap (w' := w.forCall tape i) (by rfl) hw
  refine (contract (w.forCall tape i) w.heap.size i.args ds gs before hval hw' hc (hz.weights hw) (hX _ _ _ (by rfl) hx) hsh hholds).mono fun e W' ⟨v, he, hp⟩ => ?_
  subst he
  exact ChangeSpec.post_blind hp
end Go.Proofs.YtjnfkomadgfggaaDoorY
end
section
namespace Go.Proofs.YtjnfkomadgfggaaDoor.Pu
set_option linter.unusedSimpArgs false
set_option linter.unusedVariables false
open Go.RowKit Go.Proofs.YtjnfkomadgfggaaDoorW.PrintWords
theorem wr {x : Int} (h0 : -9223372036854775808 ≤ x) (h1 : x ≤ 9223372036854775807) : wrap64 x = x := by
  unfold wrap64
  omega
theorem Ev_succ {α : Type} {g : Nat → Option α} {r : α} (h : Ev (fun k => g (k + 1)) r) : Ev g r := Ev.step (fun _ => rfl) h
theorem Ev_ite {α : Type} {c : Prop} [Decidable c] {a b : Nat → Option α} {r : α} (h1 : c → Ev a r) (h2 : ¬ c → Ev b r) : Ev (fun k => if c then a k else b k) r := by
  by_cases hc : c
  · simp only [if_pos hc]
    exact h1 hc
  · simp only [if_neg hc]
    exact h2 hc
theorem bytes_ext {a b : ByteArray} (h : a.data.toList = b.data.toList) : a = b := by
  cases a
  cases b
  simp only [ByteArray.mk.injEq]
  exact Array.toList_inj.1 h
theorem size_mk (l : List UInt8) : (⟨l.toArray⟩ : ByteArray).size = l.length := by simp [ByteArray.size]
theorem size_toList (s : ByteArray) : s.size = s.data.toList.length := by rw [Array.length_toList]; rfl
theorem app_mk (a b : List UInt8) : (⟨a.toArray⟩ : ByteArray) ++ ⟨b.toArray⟩ = ⟨(a ++ b).toArray⟩ := by
  apply bytes_ext
  simp
def allFrom (p : Int → Bool) (s : ByteArray) : Nat → Nat → Bool
  | _, 0 => true
  | i, d + 1 => p (bt s i) && allFrom p s (i + 1) d
theorem toList_data (s : ByteArray) : s.toList = s.data.toList := ByteArray.toList_eq s
theorem toList_nil_iff (s : ByteArray) : s.toList = ([] : List UInt8) ↔ s.size = 0 := by
  rw [toList_data, size_toList, List.length_eq_zero_iff]
theorem set_copy {α : Type} (l : List α) (z : α) (i d : Nat) (h : i + (d + 1) = l.length) (x : α) (hx : l[i]? = some x) :
    (l.take i ++ List.replicate (d + 1) z).set i x = l.take (i + 1) ++ List.replicate d z := by
  have hlt : i < l.length := by omega
  have hl : (l.take i).length = i := by rw [List.length_take]; omega
  rw [List.set_append_right _ _ (by omega), hl, Nat.sub_self, List.replicate_succ, List.set_cons_zero, List.take_succ_eq_append_getElem hlt]
  rw [List.getElem?_eq_getElem hlt] at hx
  obtain rfl := Option.some.inj hx
  rw [List.append_assoc]
  rfl
end Go.Proofs.YtjnfkomadgfggaaDoor.Pu
end
section
namespace Go.Proofs.YtjnfkomadgfggaaDoor.Pu
set_option linter.unusedSimpArgs false
set_option linter.unusedVariables false
open Go.RowKit Go.Proofs.YtjnfkomadgfggaaDoorW.PrintWords Go.Proofs.YtjnfkomadgfggaaDoor.PZ
theorem l00In_eq (a b c : Int) : spec_l00In.f a b c = some (decide (b ≤ a ∧ a ≤ c)) := by
  unfold spec_l00In.f
  by_cases h : a ≥ b
  · rw [if_pos h]
    simp only [ge_iff_le] at h
    simp [h]
  · rw [if_neg h]
    simp only [ge_iff_le] at h
    simp [h]
theorem within_eq (a b c : Int) : impl_within.f a b c = some (decide (b ≤ a ∧ a ≤ c)) := by
  unfold impl_within.f
  by_cases h : a ≥ b
  · rw [if_pos h]
    simp only [ge_iff_le] at h
    simp [h]
  · rw [if_neg h]
    simp only [ge_iff_le] at h
    simp [h]
end Go.Proofs.YtjnfkomadgfggaaDoor.Pu
end
section
namespace Go.Proofs.YtjnfkomadgfggaaDoor.Pu
set_option linter.unusedSimpArgs false
set_option linter.unusedVariables false
open Go.RowKit Go.Proofs.YtjnfkomadgfggaaDoorW.PrintWords Go.Proofs.YtjnfkomadgfggaaDoor.PZ
def nmC (c : Int) : Bool := decide (97 ≤ c ∧ c ≤ 122) || decide (48 ≤ c ∧ c ≤ 57)
def isNm (s : ByteArray) : Bool := decide (1 ≤ s.size ∧ s.size ≤ 10) && (decide (97 ≤ bt s 0 ∧ bt s 0 ≤ 122) && allFrom nmC s 0 s.size)
theorem small_eq (c : Int) : spec_l01Small.f c = some (decide (97 ≤ c ∧ c ≤ 122)) := by
  unfold spec_l01Small.f
  by_cases h : c ≥ 97
  · rw [if_pos h]
    simp only [ge_iff_le] at h
    simp [h]
  · rw [if_neg h]
    simp only [ge_iff_le] at h
    simp [h]
theorem digit_eq (c : Int) : spec_l01Digit.f c = some (decide (48 ≤ c ∧ c ≤ 57)) := by
  unfold spec_l01Digit.f
  by_cases h : c ≥ 48
  · rw [if_pos h]
    simp only [ge_iff_le] at h
    simp [h]
  · rw [if_neg h]
    simp only [ge_iff_le] at h
    simp [h]
theorem l01Name_l0 (s : ByteArray) (hs : s.size ≤ 9223372036854775806) (d : Nat) : ∀ i : Nat, i + d = s.size → Ev (fun k => spec_l01Name.l0 k s (i : Int)) (allFrom nmC s i d) := by
  induction d with
  | zero =>
    intro i hi
    apply Ev_succ
    simp only [spec_l01Name.l0, if_neg (show ¬ ((i : Int) < (s.size : Int)) by omega)]
    exact Ev.now _
  | succ d ih =>
    intro i hi
    apply Ev_succ
    simp only [spec_l01Name.l0, if_pos (show (i : Int) < (s.size : Int) by omega), if_pos (show 0 ≤ (i : Int) by omega), small_eq, digit_eq, Option.bind_some, wr (show -9223372036854775808 ≤ (i : Int) + 1 by omega) (by omega)]
    have h2 := ih (i + 1) (by omega)
    rw [show ((i + 1 : Nat) : Int) = (i : Int) + 1 by omega] at h2
    unfold allFrom nmC
    by_cases h1 : 97 ≤ bt s (i : Int) ∧ bt s (i : Int) ≤ 122
    · simp only [h1, decide_true, Bool.true_or, Bool.true_and, if_true]
      exact h2
    · by_cases h3 : 48 ≤ bt s (i : Int) ∧ bt s (i : Int) ≤ 57
      · simp only [h1, h3, decide_true, decide_false, Bool.or_true, Bool.true_and, if_true, Bool.false_eq_true, if_false]
        exact h2
      · simp only [h1, h3, decide_false, Bool.or_self, Bool.false_and, Bool.false_eq_true, if_false]
        exact Ev.now _
theorem l01Name_eq (s : ByteArray) (hs : s.size ≤ 9223372036854775806) : Ev (fun k => spec_l01Name.f k s) (isNm s) := by
  have hl := l01Name_l0 s hs s.size 0 (by omega)
  have hj : Ev (fun k => spec_l01Name.j0 k s true) false := by
    apply Ev_succ
    simp only [spec_l01Name.j0, if_true]
    exact Ev.now _
  unfold spec_l01Name.f isNm
  by_cases h0 : s.size = 0
  · simp only [if_pos ((toList_nil_iff s).2 h0)]
    simp only [h0]
    simpa using hj
  · simp only [if_neg (fun h => h0 ((toList_nil_iff s).1 h))]
    by_cases h1 : (s.size : Int) > 10
    · simp only [if_pos h1, show ¬ (1 ≤ s.size ∧ s.size ≤ 10) by omega, decide_false, Bool.false_and]
      exact hj
    · simp only [if_neg h1, if_pos (show 0 < (s.size : Int) by omega), small_eq, Option.bind_some, show (1 ≤ s.size ∧ s.size ≤ 10) by omega, decide_true, Bool.true_and]
      apply Ev_succ
      by_cases h2 : 97 ≤ bt s 0 ∧ bt s 0 ≤ 122
      · simp only [spec_l01Name.j0, h2, decide_true, Bool.not_true, Bool.false_eq_true, if_false, and_self, Bool.true_and]
        exact hl
      · simp only [spec_l01Name.j0, h2, decide_false, Bool.not_false, if_true, Bool.false_and]
        exact Ev.now _
theorem only_l0 (s : ByteArray) (hs : s.size ≤ 9223372036854775806) (d : Nat) : ∀ i : Nat, i + d = s.size → Ev (fun k => impl_onlyNameBytes.l0 k s (s.size : Int) (i : Int)) (allFrom nmC s i d) := by
  induction d with
  | zero =>
    intro i hi
    apply Ev_succ
    simp only [impl_onlyNameBytes.l0, if_neg (show ¬ ((i : Int) < (s.size : Int)) by omega)]
    exact Ev.now _
  | succ d ih =>
    intro i hi
    apply Ev_succ
    simp only [impl_onlyNameBytes.l0, if_pos (show (i : Int) < (s.size : Int) by omega), if_pos (show 0 ≤ (i : Int) by omega), wr (show -9223372036854775808 ≤ (i : Int) + 1 by omega) (by omega)]
    have h2 := ih (i + 1) (by omega)
    rw [show ((i + 1 : Nat) : Int) = (i : Int) + 1 by omega] at h2
    unfold allFrom nmC
    generalize bt s (i : Int) = c
    have e1 : ∀ p : Bool, p = true → Ev (fun k => impl_onlyNameBytes.l0 k s (s.size : Int) ((i : Int) + 1)) (p && allFrom nmC s (i + 1) d) := by
      intro p hp
      rw [hp, Bool.true_and]
      exact h2
    have e2 : ∀ p : Bool, p = false → Ev (fun _ => some false) (p && allFrom nmC s (i + 1) d) := by
      intro p hp
      rw [hp, Bool.false_and]
      exact Ev.now _
    refine Ev_ite (fun a => Ev_ite (fun b => e2 _ (by simp; omega)) (fun b => Ev_ite (fun c => e2 _ (by simp; omega)) (fun c => e1 _ (by simp; omega)))) (fun a => Ev_ite (fun b => Ev_ite (fun c => e2 _ (by simp; omega)) (fun c => Ev_ite (fun d => e2 _ (by simp; omega)) (fun d => e1 _ (by simp; omega)))) (fun b => e1 _ (by simp; omega)))
theorem IsName_eq (s : ByteArray) (hs : s.size ≤ 9223372036854775806) : Ev (fun k => impl_IsName.f k s) (isNm s) := by
  have hl := only_l0 s hs s.size 0 (by omega)
  unfold impl_IsName.f isNm
  by_cases h0 : s.size < 1
  · simp only [if_pos (show (s.size : Int) < 1 by omega), show ¬ (1 ≤ s.size ∧ s.size ≤ 10) by omega, decide_false, Bool.false_and]
    exact Ev.now _
  · simp only [if_neg (show ¬ (s.size : Int) < 1 by omega)]
    by_cases h1 : (s.size : Int) > 10
    · simp only [if_pos h1, show ¬ (1 ≤ s.size ∧ s.size ≤ 10) by omega, decide_false, Bool.false_and]
      exact Ev.now _
    · simp only [if_neg h1, if_pos (show 0 < (s.size : Int) by omega), show (1 ≤ s.size ∧ s.size ≤ 10) by omega, decide_true, Bool.true_and]
      by_cases h2 : bt s 0 < 97
      · simp only [if_pos h2, show ¬ (97 ≤ bt s 0 ∧ bt s 0 ≤ 122) by omega, decide_false, Bool.false_and]
        exact Ev.now _
      · simp only [if_neg h2]
        by_cases h3 : bt s 0 > 122
        · simp only [if_pos h3, show ¬ (97 ≤ bt s 0 ∧ bt s 0 ≤ 122) by omega, decide_false, Bool.false_and]
          exact Ev.now _
        · simp only [if_neg h3, show (97 ≤ bt s 0 ∧ bt s 0 ≤ 122) by omega, decide_true, Bool.true_and]
          refine Ev.bind (g := fun k => impl_onlyNameBytes.f k s) (f := fun _ t => some t) ?_ (Ev.now _)
          unfold impl_onlyNameBytes.f
          exact hl
end Go.Proofs.YtjnfkomadgfggaaDoor.Pu
end
section
namespace Go.Proofs.YtjnfkomadgfggaaDoor.Pu
set_option linter.unusedSimpArgs false
set_option linter.unusedVariables false
open Go.RowKit Go.Proofs.YtjnfkomadgfggaaDoorW.PrintWords Go.Proofs.YtjnfkomadgfggaaDoor.PZ
theorem join_tail (sep : List UInt8) (a : List UInt8) (r : List (List UInt8)) : Lib.join (a :: r) sep = a ++ r.flatMap fun x => sep ++ x := by
  unfold Lib.join
  induction r generalizing a with
  | nil => simp [List.intercalate]
  | cons b r ih =>
    have h := ih b
    simp only [List.intercalate, List.intersperse_cons_cons, List.flatten_cons] at h ⊢
    rw [h]
    simp
theorem rd_mem (l : List Int) (i : Nat) (h : i < l.length) : rd l (i : Int) = l[i] := by
  simp [rd, List.getD_eq_getElem?_getD, List.getElem?_eq_getElem h]
theorem drop_rd (l : List Int) (i : Nat) (h : i < l.length) : l.drop i = rd l (i : Int) :: l.drop (i + 1) := by
  rw [rd_mem l i h]
  exact List.drop_eq_getElem_cons h
end Go.Proofs.YtjnfkomadgfggaaDoor.Pu
end
section
namespace Go.Proofs.YtjnfkomadgfggaaDoor.Pu
set_option linter.unusedSimpArgs false
set_option linter.unusedVariables false
open Go.RowKit Go.Proofs.YtjnfkomadgfggaaDoorW.PrintWords Go.Proofs.YtjnfkomadgfggaaDoor.PZ
def sumL : List Int → Int
  | [] => 0
  | a :: r => a + sumL r
theorem sumL_nonneg (l : List Int) (h : ∀ x ∈ l, 1 ≤ x) : 0 ≤ sumL l := by
  induction l with
  | nil => exact Int.le_refl _
  | cons a r ih =>
    have h1 := h a (by simp)
    have h2 := ih (fun x hx => h x (by simp [hx]))
    simp only [sumL]
    omega
theorem sumL_take_le (l : List Int) (h : ∀ x ∈ l, 1 ≤ x) (k : Nat) (hk : k < l.length) : 0 ≤ sumL (l.take k) ∧ sumL (l.take k) + rd l (k : Int) ≤ sumL l ∧ sumL (l.take (k + 1)) = sumL (l.take k) + rd l (k : Int) ∧ 1 ≤ rd l (k : Int) := by
  induction l generalizing k with
  | nil => simp at hk
  | cons a r ih =>
    have h1 := h a (by simp)
    have hr : ∀ x ∈ r, 1 ≤ x := fun x hx => h x (by simp [hx])
    have h2 := sumL_nonneg r hr
    cases k with
    | zero =>
      have e : rd (a :: r) ((0 : Nat) : Int) = a := rfl
      rw [e]
      simp only [List.take_zero, List.take_succ_cons, sumL]
      omega
    | succ k =>
      have e : rd (a :: r) ((k + 1 : Nat) : Int) = rd r (k : Int) := by
        rw [rd_mem (a :: r) (k + 1) hk, rd_mem r k (by simpa using hk)]
        rfl
      have h3 := ih hr k (by simpa using hk)
      rw [e]
      simp only [List.take_succ_cons, sumL]
      omega
def secAt : List Int → Int → Nat × Int
  | [], b => (0, b)
  | a :: r, b => if b < a then (0, b) else ((secAt r (b - a)).1 + 1, (secAt r (b - a)).2)
theorem secAt_of (l : List Int) (h : ∀ x ∈ l, 1 ≤ x) (k : Nat) (hk : k < l.length) (p : Int) (p0 : 0 ≤ p) (p1 : p < rd l (k : Int)) : secAt l (sumL (l.take k) + p) = (k, p) := by
  induction l generalizing k with
  | nil => simp at hk
  | cons a r ih =>
    have hr : ∀ x ∈ r, 1 ≤ x := fun x hx => h x (by simp [hx])
    cases k with
    | zero =>
      have e : rd (a :: r) ((0 : Nat) : Int) = a := rfl
      rw [e] at p1
      simp only [List.take_zero, sumL, Int.zero_add, secAt, if_pos p1]
    | succ k =>
      have e : rd (a :: r) ((k + 1 : Nat) : Int) = rd r (k : Int) := by
        rw [rd_mem (a :: r) (k + 1) hk, rd_mem r k (by simpa using hk)]
        rfl
      rw [e] at p1
      have h3 := ih hr k (by simpa using hk) p1
      have h4 := (sumL_take_le r hr k (by simpa using hk)).1
      simp only [List.take_succ_cons, sumL, secAt]
      rw [if_neg (by omega), show a + sumL (r.take k) + p - a = sumL (r.take k) + p by omega, h3]
def leftP (l : List Int) (sp t : Int) : Int := (rd l ((secAt l (t % (sumL l * sp) / sp)).1 : Int) - (secAt l (t % (sumL l * sp) / sp)).2) * sp - t % (sumL l * sp) % sp
def secP (l : List Int) (sp t : Int) : Nat := (secAt l (t % (sumL l * sp) / sp)).1
def wholeP (l : List Int) (sp t : Int) : Int := rd l (secP l sp t : Int) * sp
structure AtT (l : List Int) (sp t : Int) (q k : Nat) (r : Int) : Prop where
  ht : t = (q : Int) * (sumL l * sp) + (sumL (l.take k) * sp + r)
  hk : k < l.length
  r0 : 0 ≤ r
  r1 : r < rd l (k : Int) * sp
theorem AtT.mod {l : List Int} {sp t : Int} {q k : Nat} {r : Int} (a : AtT l sp t q k r) (h : ∀ x ∈ l, 1 ≤ x) (hs : 1 ≤ sp) : t % (sumL l * sp) = sumL (l.take k) * sp + r ∧ 0 ≤ sumL (l.take k) * sp + r ∧ sumL (l.take k) * sp + r < sumL l * sp := by
  have h1 := sumL_take_le l h k a.hk
  have h2 : (sumL (l.take k) + rd l (k : Int)) * sp ≤ sumL l * sp := Int.mul_le_mul_of_nonneg_right h1.2.1 (by omega)
  rw [Int.add_mul] at h2
  have h3 : 0 ≤ sumL (l.take k) * sp := Int.mul_nonneg h1.1 (by omega)
  have h4 := a.r0
  have h5 := a.r1
  refine ⟨?_, by omega, by omega⟩
  rw [a.ht, Int.add_comm, Int.add_mul_emod_self_right, Int.emod_eq_of_lt (by omega) (by omega)]
theorem AtT.sec {l : List Int} {sp t : Int} {q k : Nat} {r : Int} (a : AtT l sp t q k r) (h : ∀ x ∈ l, 1 ≤ x) (hs : 1 ≤ sp) : secAt l (t % (sumL l * sp) / sp) = (k, r / sp) := by
  rw [(a.mod h hs).1, Int.add_comm, Int.add_mul_ediv_right _ _ (by omega), Int.add_comm]
  exact secAt_of l h k a.hk _ (Int.ediv_nonneg a.r0 (by omega)) (Int.ediv_lt_of_lt_mul (by omega) a.r1)
theorem AtT.left {l : List Int} {sp t : Int} {q k : Nat} {r : Int} (a : AtT l sp t q k r) (h : ∀ x ∈ l, 1 ≤ x) (hs : 1 ≤ sp) : leftP l sp t = rd l (k : Int) * sp - r := by
  unfold leftP
  rw [a.sec h hs, (a.mod h hs).1, Int.add_comm (sumL (l.take k) * sp) r, Int.add_mul_emod_self_right]
  have h1 := Int.emod_add_mul_ediv r sp
  simp only
  rw [Int.sub_mul, Int.mul_comm (r / sp) sp]
  omega
theorem AtT.secp {l : List Int} {sp t : Int} {q k : Nat} {r : Int} (a : AtT l sp t q k r) (h : ∀ x ∈ l, 1 ≤ x) (hs : 1 ≤ sp) : secP l sp t = k := by
  unfold secP
  rw [a.sec h hs]
theorem AtT.whole {l : List Int} {sp t : Int} {q k : Nat} {r : Int} (a : AtT l sp t q k r) (h : ∀ x ∈ l, 1 ≤ x) (hs : 1 ≤ sp) : wholeP l sp t = rd l (k : Int) * sp := by
  unfold wholeP
  rw [a.secp h hs]
theorem AtT.within {l : List Int} {sp t : Int} {q k : Nat} {r : Int} (a : AtT l sp t q k r) (n : Int) (n0 : 0 ≤ n) (h1 : r + n < rd l (k : Int) * sp) : AtT l sp (t + n) q k (r + n) :=
  ⟨by have := a.ht; omega, a.hk, by have := a.r0; omega, h1⟩
theorem AtT.next {l : List Int} {sp t : Int} {q k : Nat} {r : Int} (a : AtT l sp t q k r) (h : ∀ x ∈ l, 1 ≤ x) (hs : 1 ≤ sp) (n : Int) (h1 : r + n = rd l (k : Int) * sp) :
    AtT l sp (t + n) (if k + 1 < l.length then q else q + 1) (if k + 1 < l.length then k + 1 else 0) 0 := by
  have h2 := sumL_take_le l h k a.hk
  have hk := a.hk
  have ht := a.ht
  have e : (sumL (l.take k) + rd l (k : Int)) * sp = sumL (l.take k) * sp + rd l (k : Int) * sp := Int.add_mul _ _ _
  by_cases hl : k + 1 < l.length
  · rw [if_pos hl, if_pos hl]
    have h3 := (sumL_take_le l h (k + 1) hl).2.2.2
    refine ⟨?_, hl, Int.le_refl _, Int.mul_pos (by omega) (by omega)⟩
    rw [h2.2.2.1, e]
    omega
  · rw [if_neg hl, if_neg hl]
    have h3 := (sumL_take_le l h 0 (by omega)).2.2.2
    have h4 : l.take (k + 1) = l := List.take_of_length_le (by omega)
    rw [h4] at h2
    refine ⟨?_, by omega, Int.le_refl _, Int.mul_pos h3 (by omega)⟩
    rw [← h2.2.2.1] at e
    have e2 : ((q + 1 : Nat) : Int) * (sumL l * sp) = (q : Int) * (sumL l * sp) + sumL l * sp := by
      rw [Int.natCast_add, Int.add_mul]
      simp
    rw [e2]
    simp only [List.take_zero, sumL]
    omega
theorem AtT.zero {l : List Int} {sp : Int} (h : ∀ x ∈ l, 1 ≤ x) (hl : 0 < l.length) (hs : 1 ≤ sp) : AtT l sp 0 0 0 0 := by
  have h3 := (sumL_take_le l h 0 hl).2.2.2
  refine ⟨by simp [sumL], hl, Int.le_refl _, Int.mul_pos h3 (by omega)⟩
theorem AtT.sam {l : List Int} {sp t : Int} {q k : Nat} {r : Int} (a : AtT l sp t q k r) (h : ∀ x ∈ l, 1 ≤ x) (hs : 1 ≤ sp) (hr : r = 0) : (t % (sumL l * sp) = 0 ↔ k = 0) := by
  rw [(a.mod h hs).1, hr, Int.add_zero]
  constructor
  · intro h1
    cases k with
    | zero => rfl
    | succ k =>
      have h2 := sumL_take_le l h k (by have := a.hk; omega)
      have h3 : 0 < sumL (l.take (k + 1)) * sp := Int.mul_pos (by omega) (by omega)
      omega
  · intro h1
    subst h1
    simp [sumL]
theorem AtT.start {l : List Int} {sp t : Int} {q k : Nat} {r : Int} (a : AtT l sp t q k r) (h : ∀ x ∈ l, 1 ≤ x) (hs : 1 ≤ sp) : (leftP l sp t = wholeP l sp t ↔ r = 0) := by
  rw [a.left h hs, a.whole h hs]
  omega
structure Pc where
  i : Int
  n : Int
  t : Int
  later : Bool
def cutN (l : List Int) (sp i : Int) : Nat → Int → Int → Bool → List Pc
  | 0, _, _, _ => []
  | d + 1, rest, t, lt => if rest ≤ 0 then [] else ⟨i, min rest (leftP l sp t), t, lt⟩ :: cutN l sp i d (rest - min rest (leftP l sp t)) (t + min rest (leftP l sp t)) true
def cutM (l : List Int) (sp : Int) : List S44 → Int → Int → List Pc
  | [], _, _ => []
  | x :: r, i, t => cutN l sp i x.f1.toNat x.f1 t false ++ cutM l sp r (i + 1) (t + x.f1)
def chainP : Int → Int → List Pc → Prop
  | _, _, [] => True
  | pi, t, p :: r => p.t = t ∧ p.later = decide (pi = p.i) ∧ chainP p.i (t + p.n) r
theorem AtT.step {l : List Int} {sp t : Int} (h : ∀ x ∈ l, 1 ≤ x) (hs : 1 ≤ sp) (a : ∃ q k r, AtT l sp t q k r) (rest : Int) (hr : 1 ≤ rest) :
    1 ≤ min rest (leftP l sp t) ∧ min rest (leftP l sp t) ≤ rest ∧ ∃ q k r, AtT l sp (t + min rest (leftP l sp t)) q k r := by
  obtain ⟨q, k, r, a⟩ := a
  have e := a.left h hs
  have h1 := a.r1
  have h0 := a.r0
  refine ⟨by omega, by omega, ?_⟩
  by_cases c : r + min rest (leftP l sp t) < rd l (k : Int) * sp
  · exact ⟨_, _, _, a.within _ (by omega) c⟩
  · exact ⟨_, _, _, a.next h hs _ (by omega)⟩
theorem AtT.far {l : List Int} {sp : Int} (h : ∀ x ∈ l, 1 ≤ x) (hs : 1 ≤ sp) (d : Nat) : ∀ (t rest : Int), (∃ q k r, AtT l sp t q k r) → 0 ≤ rest → rest ≤ d → ∃ q k r, AtT l sp (t + rest) q k r := by
  induction d with
  | zero =>
    intro t rest a h0 h1
    rw [show t + rest = t by omega]
    exact a
  | succ d ih =>
    intro t rest a h0 h1
    by_cases hz : rest = 0
    · rw [show t + rest = t by omega]
      exact a
    · obtain ⟨e1, e2, e3⟩ := AtT.step h hs a rest (by omega)
      have h2 := ih _ (rest - min rest (leftP l sp t)) e3 (by omega) (by omega)
      rwa [show t + min rest (leftP l sp t) + (rest - min rest (leftP l sp t)) = t + rest by omega] at h2
theorem chain_cutN {l : List Int} {sp : Int} (h : ∀ x ∈ l, 1 ≤ x) (hs : 1 ≤ sp) (i : Int) (L : List Pc) (d : Nat) : ∀ (rest t pi : Int) (lt : Bool), (∃ q k r, AtT l sp t q k r) → 0 ≤ rest → rest ≤ d → lt = decide (pi = i) →
    (rest = 0 → chainP pi t L) → (1 ≤ rest → chainP i (t + rest) L) → chainP pi t (cutN l sp i d rest t lt ++ L) := by
  induction d with
  | zero =>
    intro rest t pi lt a h0 h1 hl h2 h3
    exact h2 (by omega)
  | succ d ih =>
    intro rest t pi lt a h0 h1 hl h2 h3
    unfold cutN
    by_cases hz : rest ≤ 0
    · rw [if_pos hz]
      exact h2 (by omega)
    · rw [if_neg hz]
      obtain ⟨e1, e2, e3⟩ := AtT.step h hs a rest (by omega)
      refine ⟨rfl, hl, ?_⟩
      have h4 := h3 (by omega)
      refine ih (rest - min rest (leftP l sp t)) (t + min rest (leftP l sp t)) i true e3 (by omega) (by omega) (by simp) (fun hh => ?_) (fun hh => ?_)
      · rwa [show t + min rest (leftP l sp t) = t + rest by omega]
      · rwa [show t + min rest (leftP l sp t) + (rest - min rest (leftP l sp t)) = t + rest by omega]
theorem chain_cutM {l : List Int} {sp : Int} (h : ∀ x ∈ l, 1 ≤ x) (hs : 1 ≤ sp) (m : List S44) : ∀ (i t pi : Int), (∃ q k r, AtT l sp t q k r) → (∀ x ∈ m, 1 ≤ x.f1) → pi < i → chainP pi t (cutM l sp m i t) := by
  induction m with
  | nil =>
    intro i t pi a hm hp
    exact trivial
  | cons x m ih =>
    intro i t pi a hm hp
    have hx := hm x (by simp)
    unfold cutM
    refine chain_cutN h hs i _ _ x.f1 t pi false a (by omega) (by omega) (by simp; omega) (fun hh => by omega) (fun _ => ?_)
    exact ih (i + 1) (t + x.f1) i (AtT.far h hs x.f1.toNat t x.f1 a (by omega) (by omega)) (fun y hy => hm y (by simp [hy])) (by omega)
theorem cutN_mem {l : List Int} {sp : Int} (h : ∀ x ∈ l, 1 ≤ x) (hs : 1 ≤ sp) (i : Int) (d : Nat) : ∀ (rest t : Int) (lt : Bool), (∃ q k r, AtT l sp t q k r) → rest ≤ d →
    (cutN l sp i d rest t lt).length ≤ d ∧ ∀ p ∈ cutN l sp i d rest t lt, p.i = i ∧ 1 ≤ p.n ∧ p.n ≤ rest ∧ t ≤ p.t ∧ p.t + p.n ≤ t + rest ∧ ∃ q k r, AtT l sp p.t q k r := by
  induction d with
  | zero =>
    intro rest t lt a h1
    exact ⟨Nat.le_refl _, fun p hp => by simp [cutN] at hp⟩
  | succ d ih =>
    intro rest t lt a h1
    unfold cutN
    by_cases hz : rest ≤ 0
    · rw [if_pos hz]
      exact ⟨by simp, fun p hp => by simp at hp⟩
    · rw [if_neg hz]
      obtain ⟨e1, e2, e3⟩ := AtT.step h hs a rest (by omega)
      obtain ⟨f1, f2⟩ := ih (rest - min rest (leftP l sp t)) (t + min rest (leftP l sp t)) true e3 (by omega)
      refine ⟨by rw [List.length_cons]; omega, fun p hp => ?_⟩
      rcases List.mem_cons.1 hp with hp | hp
      · subst hp
        exact ⟨rfl, e1, e2, Int.le_refl _, by simp only; omega, a⟩
      · obtain ⟨g1, g2, g3, g4, g5, g6⟩ := f2 p hp
        exact ⟨g1, g2, by omega, by omega, by omega, g6⟩
theorem cutM_mem {l : List Int} {sp : Int} (h : ∀ x ∈ l, 1 ≤ x) (hs : 1 ≤ sp) (m : List S44) : ∀ (i t : Int), (∃ q k r, AtT l sp t q k r) → (∀ x ∈ m, 1 ≤ x.f1 ∧ x.f1 ≤ 64) →
    (cutM l sp m i t).length ≤ 64 * m.length ∧ ∀ p ∈ cutM l sp m i t, i ≤ p.i ∧ p.i < i + m.length ∧ 1 ≤ p.n ∧ p.n ≤ 64 ∧ t ≤ p.t ∧ p.t + p.n ≤ t + 64 * m.length ∧ ∃ q k r, AtT l sp p.t q k r := by
  induction m with
  | nil =>
    intro i t a hm
    exact ⟨by simp [cutM], fun p hp => by simp [cutM] at hp⟩
  | cons x m ih =>
    intro i t a hm
    have hx := hm x (by simp)
    obtain ⟨f1, f2⟩ := ih (i + 1) (t + x.f1) (AtT.far h hs x.f1.toNat t x.f1 a (by omega) (by omega)) (fun y hy => hm y (by simp [hy]))
    obtain ⟨g1, g2⟩ := cutN_mem h hs i x.f1.toNat x.f1 t false a (by omega)
    unfold cutM
    rw [List.length_append, List.length_cons]
    refine ⟨by omega, fun p hp => ?_⟩
    rcases List.mem_append.1 hp with hp | hp
    · obtain ⟨a1, a2, a3, a4, a5, a6⟩ := g2 p hp
      exact ⟨by omega, by omega, a2, by omega, a4, by omega, a6⟩
    · obtain ⟨a1, a2, a3, a4, a5, a6, a7⟩ := f2 p hp
      exact ⟨by omega, by omega, a3, a4, by omega, by omega, a7⟩
end Go.Proofs.YtjnfkomadgfggaaDoor.Pu
end
section
namespace Go.Proofs.YtjnfkomadgfggaaDoor.Pu
set_option linter.unusedSimpArgs false
set_option linter.unusedVariables false
open Go.RowKit Go.Proofs.YtjnfkomadgfggaaDoorW.PrintWords Go.Proofs.YtjnfkomadgfggaaDoor.PZ
theorem sumL_le (l : List Int) (h : ∀ x ∈ l, 1 ≤ x ∧ x ≤ 16) : sumL l ≤ 16 * l.length := by
  induction l with
  | nil => simp [sumL]
  | cons a r ih =>
    have h1 := h a (by simp)
    have h2 := ih (fun x hx => h x (by simp [hx]))
    simp only [sumL, List.length_cons]
    omega
theorem sumL_take_bd (l : List Int) (h : ∀ x ∈ l, 1 ≤ x ∧ x ≤ 16) (hl : l.length ≤ 8) (i : Nat) : 0 ≤ sumL (l.take i) ∧ sumL (l.take i) ≤ 128 := by
  have h1 := sumL_le (l.take i) (fun x hx => h x (List.mem_of_mem_take hx))
  have h2 := sumL_nonneg (l.take i) (fun x hx => (h x (List.mem_of_mem_take hx)).1)
  rw [List.length_take] at h1
  omega
theorem l17Sum_l0 (l : List Int) (h : ∀ x ∈ l, 1 ≤ x ∧ x ≤ 16) (hl : l.length ≤ 8) (d : Nat) : ∀ i : Nat, i + d = l.length → Ev (fun k => spec_l17Sum.l0 k l (sumL (l.take i)) (i : Int)) (sumL l) := by
  induction d with
  | zero =>
    intro i hi
    apply Ev_succ
    simp only [spec_l17Sum.l0, if_neg (show ¬ ((i : Int) < (l.length : Int)) by omega), List.take_of_length_le (show l.length ≤ i by omega)]
    exact Ev.now _
  | succ d ih =>
    intro i hi
    have hb := sumL_take_bd l h hl i
    have hs := sumL_take_le l (fun x hx => (h x hx).1) i (by omega)
    have hb2 := sumL_take_bd l h hl (i + 1)
    have h2 := ih (i + 1) (by omega)
    rw [show ((i + 1 : Nat) : Int) = (i : Int) + 1 by omega, hs.2.2.1] at h2
    rw [hs.2.2.1] at hb2
    apply Ev_succ
    simp only [spec_l17Sum.l0, if_pos (show (i : Int) < (l.length : Int) by omega), if_pos (show 0 ≤ (i : Int) by omega), wr (show -9223372036854775808 ≤ (i : Int) + 1 by omega) (by omega), wr (show -9223372036854775808 ≤ sumL (l.take i) + rd l (i : Int) by omega) (by omega)]
    exact h2
theorem l17Sum_eq (l : List Int) (h : ∀ x ∈ l, 1 ≤ x ∧ x ≤ 16) (hl : l.length ≤ 8) : Ev (fun k => spec_l17Sum.f k l) (sumL l) := l17Sum_l0 l h hl l.length 0 (by omega)
theorem sumOf_l0 (l : List Int) (h : ∀ x ∈ l, 1 ≤ x ∧ x ≤ 16) (hl : l.length ≤ 8) (d : Nat) : ∀ i : Nat, i + d = l.length → Ev (fun k => impl_sumOf.l0 k (sumL (l.take i)) l (l.length : Int) (i : Int)) (sumL l) := by
  induction d with
  | zero =>
    intro i hi
    apply Ev_succ
    simp only [impl_sumOf.l0, if_neg (show ¬ ((i : Int) < (l.length : Int)) by omega), List.take_of_length_le (show l.length ≤ i by omega)]
    exact Ev.now _
  | succ d ih =>
    intro i hi
    have hb := sumL_take_bd l h hl i
    have hs := sumL_take_le l (fun x hx => (h x hx).1) i (by omega)
    have hb2 := sumL_take_bd l h hl (i + 1)
    have h2 := ih (i + 1) (by omega)
    rw [show ((i + 1 : Nat) : Int) = (i : Int) + 1 by omega, hs.2.2.1] at h2
    rw [hs.2.2.1] at hb2
    apply Ev_succ
    simp only [impl_sumOf.l0, if_pos (show (i : Int) < (l.length : Int) by omega), if_pos (show 0 ≤ (i : Int) by omega), wr (show -9223372036854775808 ≤ (i : Int) + 1 by omega) (by omega), wr (show -9223372036854775808 ≤ sumL (l.take i) + rd l (i : Int) by omega) (by omega)]
    exact h2
theorem sumOf_eq (l : List Int) (h : ∀ x ∈ l, 1 ≤ x ∧ x ≤ 16) (hl : l.length ≤ 8) : Ev (fun k => impl_sumOf.f k l) (sumL l) := sumOf_l0 l h hl l.length 0 (by omega)
theorem all_of_rd (l : List Int) (P : Int → Prop) (h : ∀ j : Nat, j < l.length → P (rd l (j : Int))) : ∀ x ∈ l, P x := by
  intro x hx
  obtain ⟨j, hj, rfl⟩ := List.mem_iff_getElem.1 hx
  have := h j hj
  rwa [rd_mem l j hj] at this
theorem rd_of_all (l : List Int) (P : Int → Prop) (h : ∀ x ∈ l, P x) : ∀ j : Nat, j < l.length → P (rd l (j : Int)) := by
  intro j hj
  rw [rd_mem l j hj]
  exact h _ (List.getElem_mem hj)
structure OkTala (nm : ByteArray) (l m : List Int) : Prop where
  name : isNm nm = true
  l1 : 1 ≤ l.length
  l8 : l.length ≤ 8
  lm : m.length = l.length
  secs : ∀ j : Nat, j < l.length → 1 ≤ rd l (j : Int) ∧ rd l (j : Int) ≤ 16
  sam : rd m 0 = 1
  marks : ∀ j : Nat, 0 < j → j < l.length → 2 ≤ rd m (j : Int) ∧ rd m (j : Int) ≤ 3
  sum : sumL l ≤ 32
theorem l17Ok_l0 (t : S32) (n : Nat) (hn : t.f1.length = n) (hm : t.f2.length = n) (h8 : n ≤ 8) (d : Nat) : ∀ i : Nat, i + d = n → (∀ j : Nat, j < i → 1 ≤ rd t.f1 (j : Int) ∧ rd t.f1 (j : Int) ≤ 16) →
    ∃ b : Bool, Ev (fun k => spec_l17Ok.l0 k [t] (n : Int) (i : Int)) b ∧ (b = true ↔ (∀ j : Nat, i ≤ j → j < n → (1 ≤ rd t.f1 (j : Int) ∧ rd t.f1 (j : Int) ≤ 16) ∧ (j = 0 → rd t.f2 0 = 1) ∧ (0 < j → 2 ≤ rd t.f2 (j : Int) ∧ rd t.f2 (j : Int) ≤ 3)) ∧ sumL t.f1 ≤ 32) := by
  have e0 : rd_T32 [t] 0 = t := rfl
  have e1 : (0 : Int) < (([t] : List S32).length : Int) := by simp
  induction d with
  | zero =>
    intro i hi hp
    refine ⟨decide (sumL t.f1 ≤ 32), ?_, ?_⟩
    · apply Ev_succ
      simp only [spec_l17Ok.l0, if_neg (show ¬ ((i : Int) < (n : Int)) by omega), if_pos e1, e0]
      exact Ev.bind (l17Sum_eq t.f1 (all_of_rd t.f1 (fun x => 1 ≤ x ∧ x ≤ 16) (fun j hj => hp j (by omega))) (by omega)) (Ev.now _)
    · rw [decide_eq_true_eq]
      exact ⟨fun h => ⟨fun j h1 h2 => by omega, h⟩, fun h => h.2⟩
  | succ d ih =>
    intro i hi hp
    have e2 : (i : Int) < (n : Int) := by omega
    have e3 : (0 : Int) ≤ (i : Int) := by omega
    have e4 : (i : Int) < (t.f1.length : Int) := by omega
    have e5 : (i : Int) < (t.f2.length : Int) := by omega
    have e6 : wrap64 ((i : Int) + 1) = ((i + 1 : Nat) : Int) := by rw [wr (by omega) (by omega)]; omega
    have hno : ∀ c : Prop, ¬ ((1 ≤ rd t.f1 (i : Int) ∧ rd t.f1 (i : Int) ≤ 16) ∧ (i = 0 → rd t.f2 0 = 1) ∧ (0 < i → 2 ≤ rd t.f2 (i : Int) ∧ rd t.f2 (i : Int) ≤ 3)) → ((false = true) ↔ (∀ j : Nat, i ≤ j → j < n → (1 ≤ rd t.f1 (j : Int) ∧ rd t.f1 (j : Int) ≤ 16) ∧ (j = 0 → rd t.f2 0 = 1) ∧ (0 < j → 2 ≤ rd t.f2 (j : Int) ∧ rd t.f2 (j : Int) ≤ 3)) ∧ c) := by
      intro c hh
      exact ⟨fun h => absurd h (by decide), fun h => absurd (h.1 i (Nat.le_refl _) (by omega)) hh⟩
    have hyes : ∀ (b : Bool) (c : Prop), ((1 ≤ rd t.f1 (i : Int) ∧ rd t.f1 (i : Int) ≤ 16) ∧ (i = 0 → rd t.f2 0 = 1) ∧ (0 < i → 2 ≤ rd t.f2 (i : Int) ∧ rd t.f2 (i : Int) ≤ 3)) →
        (b = true ↔ (∀ j : Nat, i + 1 ≤ j → j < n → (1 ≤ rd t.f1 (j : Int) ∧ rd t.f1 (j : Int) ≤ 16) ∧ (j = 0 → rd t.f2 0 = 1) ∧ (0 < j → 2 ≤ rd t.f2 (j : Int) ∧ rd t.f2 (j : Int) ≤ 3)) ∧ c) →
        (b = true ↔ (∀ j : Nat, i ≤ j → j < n → (1 ≤ rd t.f1 (j : Int) ∧ rd t.f1 (j : Int) ≤ 16) ∧ (j = 0 → rd t.f2 0 = 1) ∧ (0 < j → 2 ≤ rd t.f2 (j : Int) ∧ rd t.f2 (j : Int) ≤ 3)) ∧ c) := by
      intro b c hh hb
      rw [hb]
      refine ⟨fun h => ⟨fun j h1 h2 => ?_, h.2⟩, fun h => ⟨fun j h1 h2 => h.1 j (by omega) h2, h.2⟩⟩
      by_cases e : j = i
      · subst e
        exact hh
      · exact h.1 j (by omega) h2
    by_cases h1 : 1 ≤ rd t.f1 (i : Int) ∧ rd t.f1 (i : Int) ≤ 16
    · obtain ⟨b, hb, hiff⟩ := ih (i + 1) (by omega) (fun j hj => by
        by_cases e : j = i
        · subst e
          exact h1
        · exact hp j (by omega))
      by_cases hz : i = 0
      · by_cases h2 : rd t.f2 (i : Int) = 1
        · refine ⟨b, ?_, hyes b _ ⟨h1, fun _ => by subst hz; exact h2, fun h => by omega⟩ hiff⟩
          apply Ev_succ
          simp only [spec_l17Ok.l0, if_pos e1, if_pos e2, if_pos e3, e0, if_pos e4, if_pos e5, l00In_eq, Option.bind_some, decide_eq_true h1, if_true, if_pos (show (i : Int) = 0 by omega), if_pos h2, if_neg (show ¬ (i : Int) > 0 by omega), e6]
          exact hb
        · refine ⟨false, ?_, hno _ (fun h => h2 (by subst hz; exact h.2.1 rfl))⟩
          apply Ev_succ
          simp only [spec_l17Ok.l0, if_pos e1, if_pos e2, if_pos e3, e0, if_pos e4, if_pos e5, l00In_eq, Option.bind_some, decide_eq_true h1, if_true, if_pos (show (i : Int) = 0 by omega), if_neg h2]
          exact Ev.now _
      · by_cases h2 : 2 ≤ rd t.f2 (i : Int) ∧ rd t.f2 (i : Int) ≤ 3
        · refine ⟨b, ?_, hyes b _ ⟨h1, fun h => absurd h hz, fun h => h2⟩ hiff⟩
          apply Ev_succ
          simp only [spec_l17Ok.l0, if_pos e1, if_pos e2, if_pos e3, e0, if_pos e4, if_pos e5, l00In_eq, Option.bind_some, decide_eq_true h1, decide_eq_true h2, if_true, if_neg (show ¬ (i : Int) = 0 by omega), if_pos (show (i : Int) > 0 by omega), e6]
          exact hb
        · refine ⟨false, ?_, hno _ (fun h => h2 (h.2.2 (by omega)))⟩
          apply Ev_succ
          simp only [spec_l17Ok.l0, if_pos e1, if_pos e2, if_pos e3, e0, if_pos e4, if_pos e5, l00In_eq, Option.bind_some, decide_eq_true h1, decide_eq_false h2, if_true, Bool.false_eq_true, if_false, if_neg (show ¬ (i : Int) = 0 by omega), if_pos (show (i : Int) > 0 by omega)]
          exact Ev.now _
    · refine ⟨false, ?_, hno _ (fun h => h1 h.1)⟩
      apply Ev_succ
      simp only [spec_l17Ok.l0, if_pos e1, if_pos e2, if_pos e3, e0, if_pos e4, l00In_eq, Option.bind_some, decide_eq_false h1, Bool.false_eq_true, if_false]
      exact Ev.now _
theorem l17Ok_eq (nm : ByteArray) (l m : List Int) (hs : nm.size ≤ 9223372036854775806) : ∃ b : Bool, Ev (fun k => spec_l17Ok.f k [(⟨nm, l, m⟩ : S32)]) b ∧ (b = true ↔ OkTala nm l m) := by
  have e0 : rd_T32 [(⟨nm, l, m⟩ : S32)] 0 = ⟨nm, l, m⟩ := rfl
  have e1 : (0 : Int) < (([(⟨nm, l, m⟩ : S32)]).length : Int) := by simp
  have hj : Ev (fun k => spec_l17Ok.j0 k [(⟨nm, l, m⟩ : S32)] (l.length : Int) true) false := by
    apply Ev_succ
    simp only [spec_l17Ok.j0, if_true]
    exact Ev.now _
  unfold spec_l17Ok.f
  simp only [if_pos e1, e0]
  cases hnm : isNm nm with
  | false =>
    refine ⟨false, Ev.bind (l01Name_eq nm hs) ?_, ⟨fun h => absurd h (by decide), fun h => absurd h.name (by rw [hnm]; decide)⟩⟩
    rw [hnm]
    simp only [Bool.false_eq_true, if_false]
    exact hj
  | true =>
    by_cases h18 : (1 : Int) ≤ (l.length : Int) ∧ (l.length : Int) ≤ 8
    · by_cases hm : m.length = l.length
      · obtain ⟨b, hb, hiff⟩ := l17Ok_l0 ⟨nm, l, m⟩ l.length rfl hm (by omega) l.length 0 (by omega) (fun j hj => by omega)
        refine ⟨b, Ev.bind (l01Name_eq nm hs) ?_, ?_⟩
        · rw [hnm]
          simp only [if_true, l00In_eq, Option.bind_some, decide_eq_true h18]
          apply Ev_succ
          simp only [spec_l17Ok.j0, show ((m.length : Int) != (l.length : Int)) = false by simp; omega, Bool.false_eq_true, if_false]
          exact hb
        · rw [hiff]
          constructor
          · rintro ⟨h1, h2⟩
            exact ⟨hnm, by omega, by omega, hm, fun j hj => (h1 j (by omega) hj).1, (h1 0 (by omega) (by omega)).2.1 rfl, fun j h0 hj => (h1 j (by omega) hj).2.2 h0, h2⟩
          · intro h
            exact ⟨fun j _ hj => ⟨h.secs j hj, fun _ => h.sam, fun h0 => h.marks j h0 hj⟩, h.sum⟩
      · refine ⟨false, Ev.bind (l01Name_eq nm hs) ?_, ⟨fun h => absurd h (by decide), fun h => absurd h.lm hm⟩⟩
        rw [hnm]
        simp only [if_true, l00In_eq, Option.bind_some, decide_eq_true h18]
        rw [show ((m.length : Int) != (l.length : Int)) = true by simp; omega]
        exact hj
    · refine ⟨false, Ev.bind (l01Name_eq nm hs) ?_, ⟨fun h => absurd h (by decide), fun h => absurd h.l1 (by have := h.l8; omega)⟩⟩
      rw [hnm]
      simp only [if_true, l00In_eq, Option.bind_some, decide_eq_false h18, Bool.false_eq_true, if_false]
      exact hj
theorem ValidTala_eq (nm : ByteArray) (l m : List Int) (hs : nm.size ≤ 9223372036854775806) : ∃ b : Bool, Ev (fun k => impl_ValidTala.f k nm l m) b ∧ (b = true ↔ OkTala nm l m) := by
  unfold impl_ValidTala.f
  cases hnm : isNm nm with
  | false =>
    refine ⟨false, Ev.bind (IsName_eq nm hs) ?_, ⟨fun h => absurd h (by decide), fun h => absurd h.name (by rw [hnm]; decide)⟩⟩
    rw [hnm]
    simp only [Bool.false_eq_true, if_false]
    exact Ev.now _
  | true =>
    have hno : ∀ g : Nat → Option Bool, ¬ OkTala nm l m → Ev g false → ∃ b : Bool, Ev (fun k => (impl_IsName.f k nm).bind fun t265 => if t265 = true then g k else some false) b ∧ (b = true ↔ OkTala nm l m) := by
      intro g hh hg
      refine ⟨false, Ev.bind (IsName_eq nm hs) ?_, ⟨fun h => absurd h (by decide), fun h => absurd h hh⟩⟩
      rw [hnm]
      simp only [if_true]
      exact hg
    by_cases h1 : (l.length : Int) < 1
    · refine hno _ (fun h => absurd h.l1 (by omega)) ?_
      simp only [if_pos h1]
      exact Ev.now _
    · by_cases h8 : (l.length : Int) > 8
      · refine hno _ (fun h => absurd h.l8 (by omega)) ?_
        simp only [if_neg h1, if_pos h8]
        exact Ev.now _
      · cases hall : l.all fun n => decide (1 ≤ n ∧ n ≤ 16) with
        | false =>
          refine hno _ (fun h => ?_) ?_
          · have := all_of_rd l (fun x => 1 ≤ x ∧ x ≤ 16) h.secs
            have h3 : (l.all fun n => decide (1 ≤ n ∧ n ≤ 16)) = true := List.all_eq_true.2 (fun x hx => decide_eq_true (this x hx))
            rw [hall] at h3
            exact absurd h3 (by decide)
          · simp only [if_neg h1, if_neg h8, impl_allWithin.f, hall, Option.bind_some, Bool.false_eq_true, if_false]
            exact Ev.now _
        | true =>
          have hx : ∀ x ∈ l, 1 ≤ x ∧ x ≤ 16 := fun x hx => of_decide_eq_true (List.all_eq_true.1 hall x hx)
          have hb : Ev (fun k => impl_Tala_beats.f k nm l m) (sumL l) := Ev.bind (sumOf_eq l hx (by omega)) (Ev.now _)
          by_cases hsum : sumL l > 32
          · refine hno _ (fun h => absurd h.sum (by omega)) ?_
            simp only [if_neg h1, if_neg h8, impl_allWithin.f, hall, Option.bind_some, if_true]
            refine Ev.bind hb ?_
            simp only [if_pos hsum]
            exact Ev.now _
          · by_cases hm : (m.length : Int) = (l.length : Int)
            · have hm0 : (0 : Int) < (m.length : Int) := by omega
              by_cases hsam : rd m 0 = 1
              · refine ⟨(m.drop 1).all fun n => decide (2 ≤ n ∧ n ≤ 3), Ev.bind (IsName_eq nm hs) ?_, ?_⟩
                · rw [hnm]
                  simp only [if_true, if_neg h1, if_neg h8, impl_allWithin.f, hall, Option.bind_some]
                  refine Ev.bind hb ?_
                  simp only [if_neg hsum, if_pos hm, if_pos hm0, if_pos hsam, if_pos (show (1 : Int) ≤ (m.length : Int) by omega)]
                  exact Ev.now _
                · rw [List.all_eq_true]
                  constructor
                  · intro h
                    refine ⟨hnm, by omega, by omega, by omega, rd_of_all l _ hx, hsam, fun j h0 hj => ?_, by omega⟩
                    have hj2 : j < m.length := by omega
                    have h4 := h m[j] (by
                      rw [List.mem_iff_getElem]
                      refine ⟨j - 1, by rw [List.length_drop]; omega, ?_⟩
                      rw [List.getElem_drop]
                      congr 1
                      omega)
                    rw [rd_mem m j hj2]
                    exact of_decide_eq_true h4
                  · intro h x hx2
                    obtain ⟨j, hj, rfl⟩ := List.mem_iff_getElem.1 hx2
                    rw [List.length_drop] at hj
                    have h5 := h.marks (1 + j) (by omega) (by omega)
                    rw [rd_mem m (1 + j) (by omega)] at h5
                    rw [List.getElem_drop]
                    exact decide_eq_true h5
              · refine hno _ (fun h => hsam h.sam) ?_
                simp only [if_neg h1, if_neg h8, impl_allWithin.f, hall, Option.bind_some, if_true]
                refine Ev.bind hb ?_
                simp only [if_neg hsum, if_pos hm, if_pos hm0, if_neg hsam]
                exact Ev.now _
            · refine hno _ (fun h => hm (by have := h.lm; omega)) ?_
              simp only [if_neg h1, if_neg h8, impl_allWithin.f, hall, Option.bind_some, if_true]
              refine Ev.bind hb ?_
              simp only [if_neg hsum, if_neg hm]
              exact Ev.now _
theorem bool_same {a b : Bool} {P : Prop} (h : a = true ↔ P) (h' : b = true ↔ P) : a = b := by
  cases a <;> cases b <;> simp_all
end Go.Proofs.YtjnfkomadgfggaaDoor.Pu
end
section
namespace Go.Proofs.YtjnfkomadgfggaaDoor.Pu
set_option linter.unusedSimpArgs false
set_option linter.unusedVariables false
open Go.RowKit Go.Proofs.YtjnfkomadgfggaaDoorW.PrintWords Go.Proofs.YtjnfkomadgfggaaDoor.PZ
def cNote (x : S46) : S44 := ⟨x.f0, x.f1⟩
theorem toNoteS_l0 (l : List S46) (hl : l.length ≤ 1048576) (d : Nat) : ∀ i : Nat, i + d = l.length → Ev (fun k => laws_toNoteS.l0 k l ((l.map cNote).take i ++ List.replicate d z44) (i : Int)) (l.map cNote) := by
  induction d with
  | zero =>
    intro i hi
    apply Ev_succ
    simp only [laws_toNoteS.l0, if_neg (show ¬ ((i : Int) < (l.length : Int)) by omega), List.take_of_length_le (show (l.map cNote).length ≤ i by rw [List.length_map]; omega), List.replicate_zero, List.append_nil]
    exact Ev.now _
  | succ d ih =>
    intro i hi
    have hlt : i < l.length := by omega
    have hlen : ((l.map cNote).take i ++ List.replicate (d + 1) z44).length = l.length := by
      rw [List.length_append, List.length_take, List.length_replicate, List.length_map]
      omega
    have hrd : rd_T46 l (i : Int) = l[i] := by simp [rd_T46, List.getD_eq_getElem?_getD, List.getElem?_eq_getElem hlt]
    apply Ev_succ
    simp only [laws_toNoteS.l0, laws_toNote.f, Option.bind_some, hlen, hrd, if_pos (show (i : Int) < (l.length : Int) by omega), if_pos (show 0 ≤ (i : Int) by omega), Int.toNat_natCast, wr (show -9223372036854775808 ≤ (i : Int) + 1 by omega) (by omega)]
    rw [set_copy (l.map cNote) z44 i d (by rw [List.length_map]; exact hi) (⟨l[i].f0, l[i].f1⟩) (by rw [List.getElem?_map, List.getElem?_eq_getElem hlt]; rfl)]
    have h2 := ih (i + 1) (by omega)
    rwa [show ((i + 1 : Nat) : Int) = (i : Int) + 1 by omega] at h2
theorem toNoteS_eq (l : List S46) (hl : l.length ≤ 1048576) : Ev (fun k => laws_toNoteS.f k l) (l.map cNote) := by
  unfold laws_toNoteS.f
  simp only [if_pos (show 0 ≤ (l.length : Int) by omega), Int.toNat_natCast, if_pos (show l.length ≤ 17592186044416 by omega)]
  exact toNoteS_l0 l hl l.length 0 (by omega)
theorem eqNoteS_l0 (l : List S44) (hl : l.length ≤ 1048576) (d : Nat) : ∀ i : Nat, i + d = l.length → Ev (fun k => laws_eqNoteS.l0 k l l (i : Int)) true := by
  induction d with
  | zero =>
    intro i hi
    apply Ev_succ
    simp only [laws_eqNoteS.l0, if_neg (show ¬ ((i : Int) < (l.length : Int)) by omega)]
    exact Ev.now _
  | succ d ih =>
    intro i hi
    apply Ev_succ
    simp only [laws_eqNoteS.l0, laws_eqNote.f, if_pos (show (i : Int) < (l.length : Int) by omega), if_pos (show 0 ≤ (i : Int) by omega), if_true, Option.bind_some, wr (show -9223372036854775808 ≤ (i : Int) + 1 by omega) (by omega)]
    have h2 := ih (i + 1) (by omega)
    rwa [show ((i + 1 : Nat) : Int) = (i : Int) + 1 by omega] at h2
theorem eqNoteS_eq (l : List S44) (hl : l.length ≤ 1048576) : Ev (fun k => laws_eqNoteS.f k l l) true := by
  unfold laws_eqNoteS.f
  simp only [if_true]
  exact eqNoteS_l0 l hl l.length 0 (by omega)
def okNote (x : S44) : Bool := decide (-12 ≤ x.f0 ∧ x.f0 ≤ 23) && decide (1 ≤ x.f1 ∧ x.f1 ≤ 64)
def okMel (l : List S44) : Bool := decide (l.length ≤ 48) && l.all okNote
theorem rdN_mem (l : List S44) (i : Nat) (h : i < l.length) : rd_T44 l (i : Int) = l[i] := by
  simp [rd_T44, List.getD_eq_getElem?_getD, List.getElem?_eq_getElem h]
theorem dropN_rd (l : List S44) (i : Nat) (h : i < l.length) : l.drop i = rd_T44 l (i : Int) :: l.drop (i + 1) := by
  rw [rdN_mem l i h]
  exact List.drop_eq_getElem_cons h
theorem l09Ok_l0 (l : List S44) (hl : l.length ≤ 1048576) (d : Nat) : ∀ i : Nat, i + d = l.length → Ev (fun k => spec_l09Ok.l0 k l (i : Int)) ((l.drop i).all okNote && decide (l.length ≤ 48)) := by
  induction d with
  | zero =>
    intro i hi
    apply Ev_succ
    simp only [spec_l09Ok.l0, if_neg (show ¬ ((i : Int) < (l.length : Int)) by omega), List.drop_of_length_le (show l.length ≤ i by omega), List.all_nil, Bool.true_and]
    rw [show decide ((l.length : Int) ≤ 48) = decide (l.length ≤ 48) by simp; omega]
    exact Ev.now _
  | succ d ih =>
    intro i hi
    have hlt : i < l.length := by omega
    have h2 := ih (i + 1) (by omega)
    rw [show ((i + 1 : Nat) : Int) = (i : Int) + 1 by omega] at h2
    apply Ev_succ
    simp only [spec_l09Ok.l0, spec_l03Pitch.f, spec_l09Length.f, l00In_eq, Option.bind_some, if_pos (show (i : Int) < (l.length : Int) by omega), if_pos (show 0 ≤ (i : Int) by omega), wr (show -9223372036854775808 ≤ (i : Int) + 1 by omega) (by omega)]
    rw [dropN_rd l i hlt, List.all_cons]
    unfold okNote
    by_cases h : -12 ≤ (rd_T44 l (i : Int)).f0 ∧ (rd_T44 l (i : Int)).f0 ≤ 23
    · by_cases h3 : 1 ≤ (rd_T44 l (i : Int)).f1 ∧ (rd_T44 l (i : Int)).f1 ≤ 64
      · simp only [decide_eq_true h, decide_eq_true h3, if_true, Bool.true_and]
        exact h2
      · simp only [decide_eq_true h, decide_eq_false h3, if_true, Bool.false_eq_true, if_false, Bool.false_and, Bool.and_false]
        exact Ev.now _
    · simp only [decide_eq_false h, Bool.false_eq_true, if_false, Bool.false_and]
      exact Ev.now _
theorem l09Ok_eq (l : List S44) (hl : l.length ≤ 1048576) : Ev (fun k => spec_l09Ok.f k l) (okMel l) := by
  unfold spec_l09Ok.f okMel
  rw [Bool.and_comm]
  exact l09Ok_l0 l hl l.length 0 (by omega)
theorem ValidMelody_l0 (l : List S44) (hl : l.length ≤ 1048576) (d : Nat) : ∀ i : Nat, i + d = l.length → Ev (fun k => impl_ValidMelody.l0 k l (l.length : Int) (i : Int)) ((l.drop i).all okNote) := by
  induction d with
  | zero =>
    intro i hi
    apply Ev_succ
    simp only [impl_ValidMelody.l0, if_neg (show ¬ ((i : Int) < (l.length : Int)) by omega), List.drop_of_length_le (show l.length ≤ i by omega), List.all_nil]
    exact Ev.now _
  | succ d ih =>
    intro i hi
    have hlt : i < l.length := by omega
    have h2 := ih (i + 1) (by omega)
    rw [show ((i + 1 : Nat) : Int) = (i : Int) + 1 by omega] at h2
    apply Ev_succ
    simp only [impl_ValidMelody.l0, impl_pitchOk.f, impl_lengthOk.f, within_eq, Option.bind_some, if_pos (show (i : Int) < (l.length : Int) by omega), if_pos (show 0 ≤ (i : Int) by omega), wr (show -9223372036854775808 ≤ (i : Int) + 1 by omega) (by omega)]
    rw [dropN_rd l i hlt, List.all_cons]
    unfold okNote
    by_cases h : -12 ≤ (rd_T44 l (i : Int)).f0 ∧ (rd_T44 l (i : Int)).f0 ≤ 23
    · by_cases h3 : 1 ≤ (rd_T44 l (i : Int)).f1 ∧ (rd_T44 l (i : Int)).f1 ≤ 64
      · simp only [decide_eq_true h, decide_eq_true h3, if_true, Bool.true_and]
        exact h2
      · simp only [decide_eq_true h, decide_eq_false h3, if_true, Bool.false_eq_true, if_false, Bool.false_and, Bool.and_false]
        exact Ev.now _
    · simp only [decide_eq_false h, Bool.false_eq_true, if_false, Bool.false_and]
      exact Ev.now _
theorem ValidMelody_eq (l : List S44) (hl : l.length ≤ 1048576) : Ev (fun k => impl_ValidMelody.f k l) (okMel l) := by
  unfold impl_ValidMelody.f okMel
  by_cases h : l.length ≤ 48
  · simp only [if_neg (show ¬ ((l.length : Int) > 48) by omega), decide_eq_true h, Bool.true_and]
    exact ValidMelody_l0 l hl l.length 0 (by omega)
  · simp only [if_pos (show (l.length : Int) > 48 by omega), decide_eq_false h, Bool.false_and]
    exact Ev.now _
theorem okMel_wf {l : List S44} (h : okMel l = true) : l.length ≤ 48 ∧ ∀ x ∈ l, -12 ≤ x.f0 ∧ x.f0 ≤ 23 ∧ 1 ≤ x.f1 ∧ x.f1 ≤ 64 := by
  simp only [okMel, okNote, Bool.and_eq_true, decide_eq_true_eq, List.all_eq_true] at h
  exact ⟨h.1, fun x hx => by have := h.2 x hx; omega⟩
end Go.Proofs.YtjnfkomadgfggaaDoor.Pu
end
section
namespace Go.Proofs.YtjnfkomadgfggaaDoor.Pu
set_option linter.unusedSimpArgs false
set_option linter.unusedVariables false
open Go.RowKit Go.Proofs.YtjnfkomadgfggaaDoorW.PrintWords Go.Proofs.YtjnfkomadgfggaaDoor.PZ
theorem l17At_l0 (t : S32) (h : ∀ x ∈ t.f1, 1 ≤ x) (hl : t.f1.length ≤ 8) (d : Nat) : ∀ (i : Nat) (b : Int), i + d = t.f1.length → 0 ≤ b → b < sumL (t.f1.drop i) → b ≤ 100000 →
    Ev (fun k => spec_l17At.l0 k [t] b (i : Int)) (((i + (secAt (t.f1.drop i) b).1 : Nat) : Int), (secAt (t.f1.drop i) b).2) := by
  have e0 : rd_T32 [t] 0 = t := rfl
  have e1 : (0 : Int) < (([t] : List S32).length : Int) := by simp
  induction d with
  | zero =>
    intro i b hi b0 b1 _
    rw [List.drop_of_length_le (by omega)] at b1
    simp only [sumL] at b1
    omega
  | succ d ih =>
    intro i b hi b0 b1 bm
    have hlt : i < t.f1.length := by omega
    rw [drop_rd t.f1 i hlt] at b1 ⊢
    simp only [sumL] at b1
    have ha := h (rd t.f1 (i : Int)) (by rw [rd_mem t.f1 i hlt]; exact List.getElem_mem hlt)
    unfold secAt
    apply Ev_succ
    by_cases hb : b < rd t.f1 (i : Int)
    · simp only [spec_l17At.l0, if_pos e1, e0, if_pos (show (0 : Int) ≤ (i : Int) by omega), if_pos (show (i : Int) < (t.f1.length : Int) by omega), if_neg (show ¬ (b ≥ rd t.f1 (i : Int)) by omega), if_pos hb, Nat.add_zero]
      exact Ev.now _
    · have h2 := ih (i + 1) (b - rd t.f1 (i : Int)) (by omega) (by omega) (by omega) (by omega)
      rw [show ((i + 1 : Nat) : Int) = (i : Int) + 1 by omega] at h2
      simp only [spec_l17At.l0, if_pos e1, e0, if_pos (show (0 : Int) ≤ (i : Int) by omega), if_pos (show (i : Int) < (t.f1.length : Int) by omega), if_pos (show b ≥ rd t.f1 (i : Int) by omega), if_neg hb, wr (show -9223372036854775808 ≤ (i : Int) + 1 by omega) (by omega), wr (show -9223372036854775808 ≤ b - rd t.f1 (i : Int) by omega) (by omega)]
      rw [show i + ((secAt (t.f1.drop (i + 1)) (b - rd t.f1 (i : Int))).1 + 1) = i + 1 + (secAt (t.f1.drop (i + 1)) (b - rd t.f1 (i : Int))).1 by omega]
      exact h2
structure Good (l : List Int) (sp : Int) : Prop where
  l1 : 1 ≤ l.length
  l8 : l.length ≤ 8
  xs : ∀ x ∈ l, 1 ≤ x ∧ x ≤ 16
  sum : sumL l ≤ 32
  s1 : 1 ≤ sp
  s8 : sp ≤ 8
theorem Good.pos {l : List Int} {sp : Int} (g : Good l sp) : ∀ x ∈ l, 1 ≤ x := fun x hx => (g.xs x hx).1
theorem Good.units {l : List Int} {sp : Int} (g : Good l sp) : 1 ≤ sumL l * sp ∧ sumL l * sp ≤ 256 := by
  have h0 := (sumL_take_le l g.pos 0 (by have := g.l1; omega))
  simp only [List.take_zero, sumL, Int.zero_add] at h0
  have h1 := g.sum
  have h2 := g.s1
  have h3 := g.s8
  have h4 : sumL l * sp ≤ 32 * 8 := Int.mul_le_mul h1 h3 (by omega) (by omega)
  have h5 : 0 < sumL l * sp := Int.mul_pos (by omega) (by omega)
  omega
theorem Good.sec {l : List Int} {sp : Int} (g : Good l sp) (k : Nat) (hk : k < l.length) : 1 ≤ rd l (k : Int) ∧ rd l (k : Int) ≤ 16 ∧ 1 ≤ rd l (k : Int) * sp ∧ rd l (k : Int) * sp ≤ 128 := by
  have h0 := g.xs (rd l (k : Int)) (by rw [rd_mem l k hk]; exact List.getElem_mem hk)
  have h2 := g.s1
  have h3 := g.s8
  have h4 : rd l (k : Int) * sp ≤ 16 * 8 := Int.mul_le_mul h0.2 h3 (by omega) (by omega)
  have h5 : 0 < rd l (k : Int) * sp := Int.mul_pos (by omega) (by omega)
  omega
theorem Units_eq (t : S32) (sp : Int) (g : Good t.f1 sp) : Ev (fun k => spec_l19Units.f k [t] sp) (sumL t.f1 * sp) := by
  have e0 : rd_T32 [t] 0 = t := rfl
  have e1 : (0 : Int) < (([t] : List S32).length : Int) := by simp
  have hu := g.units
  have hb : Ev (fun k => spec_l17Beats.f k [t]) (sumL t.f1) := by
    unfold spec_l17Beats.f
    simp only [if_pos e1, e0]
    exact Ev.bind (l17Sum_eq t.f1 g.xs g.l8) (Ev.now _)
  unfold spec_l19Units.f
  refine Ev.bind hb ?_
  rw [wr (by omega) (by omega)]
  exact Ev.now _
theorem At_eq (t : S32) (sp tm : Int) (g : Good t.f1 sp) {q k : Nat} {r : Int} (a : AtT t.f1 sp tm q k r) (h0 : 0 ≤ tm) :
    Ev (fun n => spec_l17At.f n [t] (wrap64 (Int.tdiv (Int.tmod tm (sumL t.f1 * sp)) sp))) ((k : Int), r / sp) := by
  have hu := g.units
  have hm := a.mod g.pos g.s1
  have hs := a.sec g.pos g.s1
  have s1 := g.s1
  have hb0 : 0 ≤ tm % (sumL t.f1 * sp) / sp := Int.ediv_nonneg (by omega) (by omega)
  have hb1 : tm % (sumL t.f1 * sp) / sp < sumL t.f1 := Int.ediv_lt_of_lt_mul (by omega) (by omega)
  have hb2 := g.sum
  rw [Int.tmod_eq_emod_of_nonneg h0, Int.tdiv_eq_ediv_of_nonneg (by omega), wr (by omega) (by omega)]
  have h := l17At_l0 t g.pos g.l8 t.f1.length 0 (tm % (sumL t.f1 * sp) / sp) (by omega) hb0 (by simpa using hb1) (by omega)
  simp only [List.drop_zero, Nat.zero_add, hs] at h
  exact h
theorem Left_eq (t : S32) (sp tm : Int) (g : Good t.f1 sp) (a : ∃ q k r, AtT t.f1 sp tm q k r) (h0 : 0 ≤ tm) :
    Ev (fun n => spec_l25Left.f n [t] sp tm) (leftP t.f1 sp tm) := by
  obtain ⟨q, k, r, a⟩ := a
  have e0 : rd_T32 [t] 0 = t := rfl
  have e1 : (0 : Int) < (([t] : List S32).length : Int) := by simp
  have hu := g.units
  have hsec := g.sec k a.hk
  have hk := a.hk
  have s1 := g.s1
  have hq0 : 0 ≤ r / sp := Int.ediv_nonneg a.r0 (by omega)
  have hq1 : r / sp < rd t.f1 (k : Int) := Int.ediv_lt_of_lt_mul (by omega) a.r1
  have hm := Int.emod_add_mul_ediv r sp
  have hm0 := Int.emod_nonneg r (show sp ≠ 0 by omega)
  have r1 := a.r1
  have r0 := a.r0
  have e2 : Int.tmod (Int.tmod tm (sumL t.f1 * sp)) sp = r % sp := by
    rw [Int.tmod_eq_emod_of_nonneg h0, (a.mod g.pos g.s1).1, Int.tmod_eq_emod_of_nonneg (a.mod g.pos g.s1).2.1, Int.add_comm, Int.add_mul_emod_self_right]
  have e3 : (rd t.f1 (k : Int) - r / sp) * sp - r % sp = rd t.f1 (k : Int) * sp - r := by
    rw [Int.sub_mul, Int.mul_comm (r / sp) sp]
    omega
  have e4 : 0 ≤ (rd t.f1 (k : Int) - r / sp) * sp := Int.mul_nonneg (by omega) (by omega)
  have e5 : (rd t.f1 (k : Int) - r / sp) * sp ≤ 16 * 8 := Int.mul_le_mul (by omega) g.s8 (by omega) (by omega)
  rw [a.left g.pos g.s1]
  unfold spec_l25Left.f
  refine Ev.bind (Units_eq t sp g) ?_
  simp only [if_neg (show ¬ (sumL t.f1 * sp = 0) by omega), if_neg (show ¬ (sp = 0) by omega)]
  refine Ev.bind (At_eq t sp tm g a h0) ?_
  simp only [if_pos e1, e0, if_pos (show (0 : Int) ≤ (k : Int) by omega), if_pos (show (k : Int) < (t.f1.length : Int) by omega), e2]
  rw [wr (show -9223372036854775808 ≤ rd t.f1 (k : Int) - r / sp by omega) (by omega), wr (show -9223372036854775808 ≤ (rd t.f1 (k : Int) - r / sp) * sp by omega) (by omega), e3, wr (by omega) (by omega)]
  exact Ev.now _
theorem Whole_eq (t : S32) (sp tm : Int) (g : Good t.f1 sp) (a : ∃ q k r, AtT t.f1 sp tm q k r) (h0 : 0 ≤ tm) :
    Ev (fun n => spec_l25Whole.f n [t] sp tm) (wholeP t.f1 sp tm) := by
  obtain ⟨q, k, r, a⟩ := a
  have e0 : rd_T32 [t] 0 = t := rfl
  have e1 : (0 : Int) < (([t] : List S32).length : Int) := by simp
  have hu := g.units
  have hsec := g.sec k a.hk
  have hk := a.hk
  have s1 := g.s1
  rw [a.whole g.pos g.s1]
  unfold spec_l25Whole.f
  refine Ev.bind (Units_eq t sp g) ?_
  simp only [if_neg (show ¬ (sumL t.f1 * sp = 0) by omega), if_neg (show ¬ (sp = 0) by omega)]
  refine Ev.bind (At_eq t sp tm g a h0) ?_
  simp only [if_pos e1, e0, if_pos (show (0 : Int) ≤ (k : Int) by omega), if_pos (show (k : Int) < (t.f1.length : Int) by omega)]
  rw [wr (by omega) (by omega)]
  exact Ev.now _
def toPart (p : Pc) : List Int := [p.i, p.n]
def secOf (l : List Int) (sp : Int) (p : Pc) : Int := if leftP l sp p.t = wholeP l sp p.t then (secP l sp p.t : Int) else -1
def toPiece (l : List Int) (sp : Int) (p : Pc) : S65 := ⟨p.i, p.n, secOf l sp p, p.later⟩
theorem min_eq (a b : Int) : spec_l00Min.f a b = some (min a b) := by
  unfold spec_l00Min.f
  by_cases h : a < b
  · rw [if_pos h, Int.min_def, if_pos (by omega)]
  · rw [if_neg h, Int.min_def]
    by_cases h2 : a ≤ b
    · rw [if_pos h2, show a = b by omega]
    · rw [if_neg h2]
theorem l25Split_l1 (m : List S44) (t : S32) (sp : Int) (g : Good t.f1 sp) (i : Nat) (R : List (List Int)) (d : Nat) : ∀ (acc : List (List Int)) (rest tm : Int) (lt : Bool),
    (∃ q k r, AtT t.f1 sp tm q k r) → 0 ≤ tm → tm + rest ≤ 1000000 → 0 ≤ rest → rest ≤ d → d ≤ 64 → i ≤ 1000 → acc.length + d ≤ 1000000 →
    Ev (fun n => spec_l25Split.l0 n m [t] sp (acc ++ (cutN t.f1 sp (i : Int) d rest tm lt).map toPart) (tm + rest) ((i : Int) + 1)) R →
    Ev (fun n => spec_l25Split.l1 n m [t] sp acc tm (i : Int) rest) R := by
  induction d with
  | zero =>
    intro acc rest tm lt a t0 t1 h0 h1 h2 h3 h4 hR
    apply Ev_succ
    simp only [spec_l25Split.l1, if_neg (show ¬ (rest > 0) by omega), wr (show -9223372036854775808 ≤ (i : Int) + 1 by omega) (by omega)]
    simp only [cutN, List.map_nil, List.append_nil, show tm + rest = tm by omega] at hR
    exact hR
  | succ d ih =>
    intro acc rest tm lt a t0 t1 h0 h1 h2 h3 h4 hR
    apply Ev_succ
    unfold cutN at hR
    by_cases hz : rest ≤ 0
    · simp only [spec_l25Split.l1, if_neg (show ¬ (rest > 0) by omega), wr (show -9223372036854775808 ≤ (i : Int) + 1 by omega) (by omega)]
      rw [if_pos hz, List.map_nil, List.append_nil, show tm + rest = tm by omega] at hR
      exact hR
    · obtain ⟨e1, e2, e3⟩ := AtT.step g.pos g.s1 a rest (by omega)
      simp only [spec_l25Split.l1, if_pos (show rest > 0 by omega)]
      refine Ev.bind (Left_eq t sp tm g a t0) ?_
      rw [if_neg hz, List.map_cons, List.append_cons] at hR
      simp only [min_eq, Option.bind_some, if_pos (show acc.length < 5864062014805 by omega), wr (show -9223372036854775808 ≤ tm + min rest (leftP t.f1 sp tm) by omega) (by omega), wr (show -9223372036854775808 ≤ rest - min rest (leftP t.f1 sp tm) by omega) (by omega)]
      refine ih _ (rest - min rest (leftP t.f1 sp tm)) (tm + min rest (leftP t.f1 sp tm)) true e3 (by omega) (by omega) (by omega) (by omega) (by omega) h3 (by rw [List.length_append, List.length_singleton]; omega) ?_
      rw [show tm + min rest (leftP t.f1 sp tm) + (rest - min rest (leftP t.f1 sp tm)) = tm + rest by omega]
      exact hR
theorem l25Split_l0 (m : List S44) (hm : m.length ≤ 48) (hw : ∀ x ∈ m, 1 ≤ x.f1 ∧ x.f1 ≤ 64) (t : S32) (sp : Int) (g : Good t.f1 sp) (d : Nat) : ∀ (i : Nat) (acc : List (List Int)) (tm : Int),
    i + d = m.length → (∃ q k r, AtT t.f1 sp tm q k r) → 0 ≤ tm → tm + 64 * d ≤ 100000 → acc.length + 64 * d ≤ 100000 →
    Ev (fun n => spec_l25Split.l0 n m [t] sp acc tm (i : Int)) (acc ++ (cutM t.f1 sp (m.drop i) (i : Int) tm).map toPart) := by
  induction d with
  | zero =>
    intro i acc tm hi a t0 t1 ha
    apply Ev_succ
    simp only [spec_l25Split.l0, if_neg (show ¬ ((i : Int) < (m.length : Int)) by omega), List.drop_of_length_le (show m.length ≤ i by omega), cutM, List.map_nil, List.append_nil]
    exact Ev.now _
  | succ d ih =>
    intro i acc tm hi a t0 t1 ha
    have hlt : i < m.length := by omega
    have hx := hw (rd_T44 m (i : Int)) (by rw [rdN_mem m i hlt]; exact List.getElem_mem hlt)
    rw [dropN_rd m i hlt]
    unfold cutM
    rw [List.map_append, ← List.append_assoc]
    apply Ev_succ
    simp only [spec_l25Split.l0, if_pos (show (i : Int) < (m.length : Int) by omega), if_pos (show 0 ≤ (i : Int) by omega)]
    have hc := (cutN_mem g.pos g.s1 (i : Int) (rd_T44 m (i : Int)).f1.toNat (rd_T44 m (i : Int)).f1 tm false a (by omega)).1
    refine l25Split_l1 m t sp g i _ (rd_T44 m (i : Int)).f1.toNat acc _ tm false a t0 (by omega) (by omega) (by omega) (by omega) (by omega) (by omega) ?_
    have h2 := ih (i + 1) (acc ++ (cutN t.f1 sp (i : Int) (rd_T44 m (i : Int)).f1.toNat (rd_T44 m (i : Int)).f1 tm false).map toPart) (tm + (rd_T44 m (i : Int)).f1) (by omega) (AtT.far g.pos g.s1 (rd_T44 m (i : Int)).f1.toNat tm _ a (by omega) (by omega)) (by omega) (by omega) (by rw [List.length_append, List.length_map]; omega)
    rwa [show ((i + 1 : Nat) : Int) = (i : Int) + 1 by omega] at h2
theorem l25Split_eq (m : List S44) (hm : m.length ≤ 48) (hw : ∀ x ∈ m, 1 ≤ x.f1 ∧ x.f1 ≤ 64) (t : S32) (sp : Int) (g : Good t.f1 sp) :
    Ev (fun n => spec_l25Split.f n m [t] sp) ((cutM t.f1 sp m 0 0).map toPart) := by
  have h := l25Split_l0 m hm hw t sp g m.length 0 [] 0 (by omega) ⟨0, 0, 0, AtT.zero g.pos (by have := g.l1; omega) g.s1⟩ (by omega) (by omega) (by simp; omega)
  simp only [List.nil_append, List.drop_zero, Int.natCast_zero] at h
  exact h
def ImplSt (l : List Int) (sp sec left tm : Int) : Prop :=
  ∃ q k r, AtT l sp tm q k r ∧ ((0 < r ∧ sec = (k : Int) ∧ left = rd l (k : Int) * sp - r) ∨ (r = 0 ∧ left = 0 ∧ ((k = 0 ∧ (sec = -1 ∨ sec = (l.length : Int) - 1)) ∨ (0 < k ∧ sec = (k : Int) - 1))))
theorem ImplSt.at {l : List Int} {sp sec left tm : Int} (st : ImplSt l sp sec left tm) : ∃ q k r, AtT l sp tm q k r := by
  obtain ⟨q, k, r, a, _⟩ := st
  exact ⟨q, k, r, a⟩
theorem ImplSt.after {l : List Int} {sp tm : Int} (g : Good l sp) {q k : Nat} {r : Int} (a : AtT l sp tm q k r) (n : Int) (n1 : 1 ≤ n) (n2 : n ≤ rd l (k : Int) * sp - r) : ImplSt l sp (k : Int) (rd l (k : Int) * sp - r - n) (tm + n) := by
  have r0 := a.r0
  have hk := a.hk
  by_cases c : r + n < rd l (k : Int) * sp
  · exact ⟨q, k, r + n, a.within n (by omega) c, .inl ⟨by omega, rfl, by omega⟩⟩
  · refine ⟨_, _, 0, a.next g.pos g.s1 n (by omega), .inr ⟨rfl, by omega, ?_⟩⟩
    by_cases c2 : k + 1 < l.length
    · rw [if_pos c2]
      exact .inr ⟨by omega, by omega⟩
    · rw [if_neg c2]
      exact .inl ⟨rfl, .inr (by omega)⟩
theorem mn_eq (a b : Int) : mn a b = min a b := by
  unfold mn
  rw [Int.min_def]
  by_cases h : b < a
  · rw [if_pos h, if_neg (by omega)]
  · rw [if_neg h, if_pos (by omega)]
theorem ImplSt.step {l : List Int} {sp sec left tm : Int} (g : Good l sp) (st : ImplSt l sp sec left tm) (rest : Int) (hr : 1 ≤ rest) :
    (left = 0 ∧ ∃ k : Nat, Int.tmod (wrap64 (sec + 1)) (l.length : Int) = (k : Int) ∧ k < l.length ∧ leftP l sp tm = wholeP l sp tm ∧ secP l sp tm = k ∧ leftP l sp tm = rd l (k : Int) * sp ∧ ImplSt l sp (k : Int) (rd l (k : Int) * sp - min rest (leftP l sp tm)) (tm + min rest (leftP l sp tm))) ∨
    (left ≠ 0 ∧ leftP l sp tm = left ∧ leftP l sp tm ≠ wholeP l sp tm ∧ 1 ≤ left ∧ left ≤ 128 ∧ ImplSt l sp sec (left - min rest (leftP l sp tm)) (tm + min rest (leftP l sp tm))) := by
  obtain ⟨q, k, r, a, h⟩ := st
  have e := a.left g.pos g.s1
  have r1 := a.r1
  have r0 := a.r0
  have hk := a.hk
  have hst := a.start g.pos g.s1
  have hw := a.whole g.pos g.s1
  have hsec := g.sec k hk
  have ha := ImplSt.after g a (min rest (leftP l sp tm)) (by omega) (by omega)
  rcases h with ⟨h1, h2, h3⟩ | ⟨h1, h2, h3⟩
  · refine .inr ⟨by omega, by omega, by omega, by omega, by omega, ?_⟩
    rw [h2, h3]
    exact ha
  · refine .inl ⟨h2, k, ?_, hk, by omega, a.secp g.pos g.s1, by omega, ?_⟩
    · have hl8 := g.l8
      have hl1 := g.l1
      rw [wr (by omega) (by omega)]
      rcases h3 with ⟨h4, h5 | h5⟩ | ⟨h4, h5⟩
      · rw [h5, h4]
        simp
      · rw [h5, h4, show (l.length : Int) - 1 + 1 = (l.length : Int) by omega]
        simp
      · rw [h5, show (k : Int) - 1 + 1 = (k : Int) by omega, Int.tmod_eq_emod_of_nonneg (by omega), Int.emod_eq_of_lt (by omega) (by omega)]
    · rw [h1, Int.sub_zero] at ha
      exact ha
theorem split_l1 (m : List S44) (nm : ByteArray) (l ms : List Int) (sp : Int) (g : Good l sp) (i : Nat) (hi : i ≤ 1000) (R : List S65) (d : Nat) : ∀ (acc : List S65) (sec left rest tm : Int) (lt : Bool),
    ImplSt l sp sec left tm → 0 ≤ rest → rest ≤ d → d ≤ 64 → acc.length + d ≤ 1000000 →
    (∀ sec' left', ImplSt l sp sec' left' (tm + rest) → Ev (fun n => impl_split.l0 n sp (acc ++ (cutN l sp (i : Int) d rest tm lt).map (toPiece l sp)) sec' left' m (m.length : Int) ((i : Int) + 1) nm l ms) R) →
    Ev (fun n => impl_split.l1 n sp acc sec left (i : Int) lt rest m (m.length : Int) (i : Int) nm l ms) R := by
  induction d with
  | zero =>
    intro acc sec left rest tm lt st h0 h1 h2 h3 hR
    apply Ev_succ
    simp only [impl_split.l1, if_neg (show ¬ (rest > 0) by omega), wr (show -9223372036854775808 ≤ (i : Int) + 1 by omega) (by omega)]
    have h := hR sec left (by rw [show tm + rest = tm by omega]; exact st)
    simp only [cutN, List.map_nil, List.append_nil] at h
    exact h
  | succ d ih =>
    intro acc sec left rest tm lt st h0 h1 h2 h3 hR
    apply Ev_succ
    by_cases hz : rest ≤ 0
    · have h := hR sec left (by rw [show tm + rest = tm by omega]; exact st)
      simp only [impl_split.l1, if_neg (show ¬ (rest > 0) by omega), wr (show -9223372036854775808 ≤ (i : Int) + 1 by omega) (by omega)]
      unfold cutN at h
      rw [if_pos hz, List.map_nil, List.append_nil] at h
      exact h
    · unfold cutN at hR
      rw [if_neg hz, List.map_cons, List.append_cons] at hR
      have hl1 := g.l1
      rcases st.step g rest (by omega) with ⟨s1, k, s2, s3, s4, s5, s6, s7⟩ | ⟨s1, s2, s3, s4, s5, s6⟩
      · have hsec := g.sec k s3
        have ep : toPiece l sp ⟨(i : Int), min rest (leftP l sp tm), tm, lt⟩ = (⟨(i : Int), min rest (rd l (k : Int) * sp), (k : Int), lt⟩ : S65) := by
          unfold toPiece secOf
          simp only
          rw [if_pos s4, s5, s6]
        rw [ep] at hR
        rw [s6] at hR s7
        simp only [impl_split.l1, if_pos (show rest > 0 by omega), if_pos s1, if_neg (show ¬ ((l.length : Int) = 0) by omega), s2, if_pos (show (0 : Int) ≤ (k : Int) by omega), if_pos (show (k : Int) < (l.length : Int) by omega), if_pos (show acc.length < 4398046511104 by omega), mn_eq,
          wr (show -9223372036854775808 ≤ rd l (k : Int) * sp by omega) (by omega), wr (show -9223372036854775808 ≤ rd l (k : Int) * sp - min rest (rd l (k : Int) * sp) by omega) (by omega), wr (show -9223372036854775808 ≤ rest - min rest (rd l (k : Int) * sp) by omega) (by omega)]
        refine ih _ _ _ (rest - min rest (rd l (k : Int) * sp)) (tm + min rest (rd l (k : Int) * sp)) true s7 (by omega) (by omega) (by omega) (by rw [List.length_append, List.length_singleton]; omega) ?_
        rw [show tm + min rest (rd l (k : Int) * sp) + (rest - min rest (rd l (k : Int) * sp)) = tm + rest by omega]
        exact hR
      · have ep : toPiece l sp ⟨(i : Int), min rest (leftP l sp tm), tm, lt⟩ = (⟨(i : Int), min rest left, -1, lt⟩ : S65) := by
          unfold toPiece secOf
          simp only
          rw [if_neg s3, s2]
        rw [ep] at hR
        rw [s2] at hR s6
        simp only [impl_split.l1, if_pos (show rest > 0 by omega), if_neg s1, if_pos (show acc.length < 4398046511104 by omega), mn_eq,
          wr (show -9223372036854775808 ≤ left - min rest left by omega) (by omega), wr (show -9223372036854775808 ≤ rest - min rest left by omega) (by omega)]
        refine ih _ _ _ (rest - min rest left) (tm + min rest left) true s6 (by omega) (by omega) (by omega) (by rw [List.length_append, List.length_singleton]; omega) ?_
        rw [show tm + min rest left + (rest - min rest left) = tm + rest by omega]
        exact hR
theorem split_l0 (m : List S44) (hm : m.length ≤ 48) (hw : ∀ x ∈ m, 1 ≤ x.f1 ∧ x.f1 ≤ 64) (nm : ByteArray) (l ms : List Int) (sp : Int) (g : Good l sp) (d : Nat) : ∀ (i : Nat) (acc : List S65) (sec left tm : Int),
    i + d = m.length → ImplSt l sp sec left tm → acc.length + 64 * d ≤ 100000 →
    Ev (fun n => impl_split.l0 n sp acc sec left m (m.length : Int) (i : Int) nm l ms) (acc ++ (cutM l sp (m.drop i) (i : Int) tm).map (toPiece l sp)) := by
  induction d with
  | zero =>
    intro i acc sec left tm hi st ha
    apply Ev_succ
    simp only [impl_split.l0, if_neg (show ¬ ((i : Int) < (m.length : Int)) by omega), List.drop_of_length_le (show m.length ≤ i by omega), cutM, List.map_nil, List.append_nil]
    exact Ev.now _
  | succ d ih =>
    intro i acc sec left tm hi st ha
    have hlt : i < m.length := by omega
    have hx := hw (rd_T44 m (i : Int)) (by rw [rdN_mem m i hlt]; exact List.getElem_mem hlt)
    rw [dropN_rd m i hlt]
    unfold cutM
    rw [List.map_append, ← List.append_assoc]
    apply Ev_succ
    simp only [impl_split.l0, if_pos (show (i : Int) < (m.length : Int) by omega), if_pos (show 0 ≤ (i : Int) by omega)]
    have hc := (cutN_mem g.pos g.s1 (i : Int) (rd_T44 m (i : Int)).f1.toNat (rd_T44 m (i : Int)).f1 tm false st.at (by omega)).1
    refine split_l1 m nm l ms sp g i (by omega) _ (rd_T44 m (i : Int)).f1.toNat acc sec left _ tm false st (by omega) (by omega) (by omega) (by omega) ?_
    intro sec' left' st'
    have h2 := ih (i + 1) (acc ++ (cutN l sp (i : Int) (rd_T44 m (i : Int)).f1.toNat (rd_T44 m (i : Int)).f1 tm false).map (toPiece l sp)) sec' left' (tm + (rd_T44 m (i : Int)).f1) (by omega) st' (by rw [List.length_append, List.length_map]; omega)
    rwa [show ((i + 1 : Nat) : Int) = (i : Int) + 1 by omega] at h2
theorem split_eq (m : List S44) (hm : m.length ≤ 48) (hw : ∀ x ∈ m, 1 ≤ x.f1 ∧ x.f1 ≤ 64) (nm : ByteArray) (l ms : List Int) (sp : Int) (g : Good l sp) :
    Ev (fun n => impl_split.f n m nm l ms sp) ((cutM l sp m 0 0).map (toPiece l sp)) := by
  have h := split_l0 m hm hw nm l ms sp g m.length 0 [] (-1) 0 0 (by omega) ⟨0, 0, 0, AtT.zero g.pos (by have := g.l1; omega) g.s1, .inr ⟨rfl, rfl, .inl ⟨rfl, .inl rfl⟩⟩⟩ (by simp; omega)
  simp only [List.nil_append, List.drop_zero, Int.natCast_zero] at h
  exact h
end Go.Proofs.YtjnfkomadgfggaaDoor.Pu
end
section
namespace Go.Proofs.YtjnfkomadgfggaaDoor.Pu
set_option linter.unusedSimpArgs false
set_option linter.unusedVariables false
open Go.RowKit Go.Proofs.YtjnfkomadgfggaaDoorW.PrintWords Go.Proofs.YtjnfkomadgfggaaDoor.PZ
def revD (u : Nat) : List Int := if h : u = 0 then [] else ((48 + u % 10 : Nat) : Int) :: revD (u / 10)
termination_by u
decreasing_by omega
theorem revD_dec (u : Nat) (h : u ≠ 0) : (revD u).reverse.map (fun n => UInt8.ofNat n.toNat) = Lib.decDigits u := by
  induction u using Nat.strongRecOn with
  | _ u ih =>
    rw [revD, dif_neg h, List.reverse_cons, List.map_append]
    by_cases h1 : u < 10
    · rw [Lib.decDigits, dif_pos h1, show u / 10 = 0 by omega, revD, dif_pos rfl]
      simp only [List.reverse_nil, List.map_nil, List.nil_append, List.map_cons, Int.toNat_natCast]
      rw [show u % 10 = u by omega]
    · rw [Lib.decDigits, dif_neg h1, ih (u / 10) (by omega) (by omega)]
      simp only [List.map_cons, List.map_nil, Int.toNat_natCast]
theorem l01Dec_l1 (xs : List Int) (hx : xs.length ≤ 1000) (n : Nat) : ∀ acc : List Int, acc.length + n ≤ 1000 → n ≤ xs.length → Ev (fun k => spec_l01Dec.l1 k xs acc ((n : Int) - 1)) (strOfNums (acc ++ (xs.take n).reverse)) := by
  induction n with
  | zero =>
    intro acc _ _
    apply Ev_succ
    simp only [spec_l01Dec.l1, if_neg (show ¬ (((0 : Nat) : Int) - 1 ≥ 0) by omega), List.take_zero, List.reverse_nil, List.append_nil]
    exact Ev.now _
  | succ n ih =>
    intro acc ha hn
    apply Ev_succ
    have e : (((n + 1 : Nat) : Int) - 1) = (n : Int) := by omega
    simp only [spec_l01Dec.l1, e, if_pos (show (n : Int) ≥ 0 by omega), if_pos (show 0 ≤ (n : Int) by omega), if_pos (show (n : Int) < (xs.length : Int) by omega), if_pos (show acc.length < 140737488355328 by omega), wr (show -9223372036854775808 ≤ (n : Int) - 1 by omega) (by omega)]
    have h2 := ih (acc ++ [rd xs (n : Int)]) (by rw [List.length_append, List.length_singleton]; omega) (by omega)
    rw [List.append_assoc] at h2
    have h3 : [rd xs (n : Int)] ++ (xs.take n).reverse = (xs.take (n + 1)).reverse := by
      rw [List.take_succ_eq_append_getElem (by omega), List.reverse_append]
      simp [rd, List.getD_eq_getElem?_getD, List.getElem?_eq_getElem (show n < xs.length by omega)]
    rwa [h3] at h2
theorem l01Dec_j1 (xs : List Int) (hx : xs.length ≤ 1000) : Ev (fun k => spec_l01Dec.j1 k xs) (strOfNums xs.reverse) := by
  apply Ev_succ
  simp only [spec_l01Dec.j1, wr (show -9223372036854775808 ≤ (xs.length : Int) - 1 by omega) (by omega)]
  have h := l01Dec_l1 xs hx xs.length [] (by simpa using hx) (Nat.le_refl _)
  simpa using h
theorem tm (u : Nat) : Int.tmod (u : Int) 10 = ((u % 10 : Nat) : Int) := by
  rw [Int.tmod_eq_emod_of_nonneg (by omega)]
  omega
theorem td (u : Nat) : Int.tdiv (u : Int) 10 = ((u / 10 : Nat) : Int) := by
  rw [Int.tdiv_eq_ediv_of_nonneg (by omega)]
  omega
theorem l01Dec_pos (x0 : Int) (h0 : ¬ x0 < 0) (j : Nat) : ∀ (u : Nat) (xs : List Int), u < 10 ^ j → u < 9223372036854775808 → xs.length + j ≤ 900 → Ev (fun k => spec_l01Dec.l0 k x0 xs (u : Int)) (strOfNums (xs ++ revD u).reverse) := by
  induction j with
  | zero =>
    intro u xs hu _ hx
    have : u = 0 := by simpa using hu
    subst this
    apply Ev_succ
    simp only [spec_l01Dec.l0, if_pos (show ((0 : Nat) : Int) = 0 from rfl), if_neg h0]
    rw [revD, dif_pos rfl, List.append_nil]
    exact l01Dec_j1 xs (by omega)
  | succ j ih =>
    intro u xs hu hub hx
    apply Ev_succ
    by_cases hz : u = 0
    · subst hz
      simp only [spec_l01Dec.l0, if_pos (show ((0 : Nat) : Int) = 0 from rfl), if_neg h0]
      rw [revD, dif_pos rfl, List.append_nil]
      exact l01Dec_j1 xs (by omega)
    · have e : (wrap64 (48 + ((u % 10 : Nat) : Int))) % 256 = ((48 + u % 10 : Nat) : Int) := by
        rw [wr (by omega) (by omega)]
        omega
      simp only [spec_l01Dec.l0, if_neg (show ¬ ((u : Int) = 0) by omega), tm, td, if_neg (show ¬ (((u % 10 : Nat) : Int) < 0) by omega), if_pos (show xs.length < 140737488355328 by omega), e, wr (show -9223372036854775808 ≤ ((u / 10 : Nat) : Int) by omega) (by omega)]
      have h2 := ih (u / 10) (xs ++ [((48 + u % 10 : Nat) : Int)]) (by rw [Nat.pow_succ] at hu; omega) (by omega) (by rw [List.length_append, List.length_singleton]; omega)
      rw [List.append_assoc] at h2
      rw [revD, dif_neg hz]
      exact h2
theorem l01Dec_neg (x0 : Int) (h0 : x0 < 0) (j : Nat) : ∀ (u : Nat) (xs : List Int), u < 10 ^ j → u ≤ 9223372036854775808 → xs.length + j ≤ 900 → Ev (fun k => spec_l01Dec.l0 k x0 xs (-(u : Int))) (strOfNums ((xs ++ revD u) ++ [45]).reverse) := by
  induction j with
  | zero =>
    intro u xs hu _ hx
    have : u = 0 := by simpa using hu
    subst this
    apply Ev_succ
    simp only [spec_l01Dec.l0, if_pos (show (-((0 : Nat) : Int)) = 0 from rfl), if_pos h0, if_pos (show xs.length < 140737488355328 by omega)]
    rw [revD, dif_pos rfl, List.append_nil]
    exact l01Dec_j1 (xs ++ [45]) (by rw [List.length_append, List.length_singleton]; omega)
  | succ j ih =>
    intro u xs hu hub hx
    apply Ev_succ
    by_cases hz : u = 0
    · subst hz
      simp only [spec_l01Dec.l0, if_pos (show (-((0 : Nat) : Int)) = 0 from rfl), if_pos h0, if_pos (show xs.length < 140737488355328 by omega)]
      rw [revD, dif_pos rfl, List.append_nil]
      exact l01Dec_j1 (xs ++ [45]) (by rw [List.length_append, List.length_singleton]; omega)
    · have e1 : Int.tmod (-(u : Int)) 10 = -((u % 10 : Nat) : Int) := by rw [Int.neg_tmod, tm]
      have e2 : Int.tdiv (-(u : Int)) 10 = -((u / 10 : Nat) : Int) := by rw [Int.neg_tdiv, td]
      have e : (wrap64 (48 + ((u % 10 : Nat) : Int))) % 256 = ((48 + u % 10 : Nat) : Int) := by
        rw [wr (by omega) (by omega)]
        omega
      have h2 := ih (u / 10) (xs ++ [((48 + u % 10 : Nat) : Int)]) (by rw [Nat.pow_succ] at hu; omega) (by omega) (by rw [List.length_append, List.length_singleton]; omega)
      rw [List.append_assoc xs] at h2
      simp only [spec_l01Dec.l0, if_neg (show ¬ (-(u : Int) = 0) by omega), e1, e2, if_pos (show xs.length < 140737488355328 by omega), wr (show -9223372036854775808 ≤ -((u / 10 : Nat) : Int) by omega) (by omega), Int.neg_neg, wr (show -9223372036854775808 ≤ ((u % 10 : Nat) : Int) by omega) (by omega)]
      rw [revD, dif_neg hz]
      by_cases hm : u % 10 = 0
      · rw [hm] at h2
        simp only [hm, show ¬ (-((0 : Nat) : Int) < 0) by omega, if_false, show (wrap64 (48 + -((0 : Nat) : Int))) % 256 = ((48 + 0 : Nat) : Int) by rw [wr (by omega) (by omega)]; omega]
        exact h2
      · simp only [if_pos (show -((u % 10 : Nat) : Int) < 0 by omega), e]
        exact h2
theorem l01Dec_eq (n : Int) (h1 : -9223372036854775808 ≤ n) (h2 : n ≤ 9223372036854775807) : Ev (fun k => spec_l01Dec.f k n) ⟨(Lib.itoa n).toArray⟩ := by
  unfold spec_l01Dec.f
  by_cases h0 : n = 0
  · subst h0
    simp only [if_pos]
    have : (Lib.itoa 0) = [48] := by decide +kernel
    rw [this]
    exact Ev.now _
  · simp only [if_neg h0]
    by_cases hn : n < 0
    · obtain ⟨u, hu⟩ : ∃ u : Nat, n = -(u : Int) := ⟨n.natAbs, by omega⟩
      have h := l01Dec_neg n hn 20 u [] (by omega) (by omega) (by simp)
      rw [← hu] at h
      have e : strOfNums (([] ++ revD u) ++ [45]).reverse = ⟨(Lib.itoa n).toArray⟩ := by
        apply bytes_ext
        rw [strOfNums_data, List.nil_append, List.reverse_append, List.map_append, revD_dec u (by omega)]
        unfold Lib.itoa
        rw [if_pos hn, show n.natAbs = u by omega]
        rfl
      rwa [e] at h
    · obtain ⟨u, hu⟩ : ∃ u : Nat, n = (u : Int) := ⟨n.natAbs, by omega⟩
      have h := l01Dec_pos n hn 20 u [] (by omega) (by omega) (by simp)
      rw [← hu] at h
      have e : strOfNums ([] ++ revD u).reverse = ⟨(Lib.itoa n).toArray⟩ := by
        apply bytes_ext
        rw [strOfNums_data, List.nil_append, revD_dec u (by omega)]
        unfold Lib.itoa
        rw [if_neg hn, show n.toNat = u by omega]
      rwa [e] at h
theorem decDigits_lt (j : Nat) : ∀ u, u < 10 ^ (j + 1) → (Lib.decDigits u).length ≤ j + 1 := by
  induction j with
  | zero =>
    intro u hu
    rw [Lib.decDigits, dif_pos (by simpa using hu)]
    simp
  | succ j ih =>
    intro u hu
    rw [Lib.decDigits]
    by_cases h : u < 10
    · rw [dif_pos h]
      simp
    · rw [dif_neg h, List.length_append]
      have := ih (u / 10) (by rw [Nat.pow_succ] at hu; omega)
      simp only [List.length_singleton]
      omega
theorem itoa_length (n : Int) (h1 : -9223372036854775808 ≤ n) (h2 : n ≤ 9223372036854775807) : (Lib.itoa n).length ≤ 20 := by
  unfold Lib.itoa
  by_cases hn : n < 0
  · rw [if_pos hn, List.length_cons]
    have := decDigits_lt 18 n.natAbs (by omega)
    omega
  · rw [if_neg hn]
    have := decDigits_lt 18 n.toNat (by omega)
    omega
theorem Decimal_eq (n : Int) (h1 : -9223372036854775808 ≤ n) (h2 : n ≤ 9223372036854775807) : impl_Decimal.f n = some ⟨(Lib.itoa n).toArray⟩ := by
  unfold impl_Decimal.f
  rw [if_pos ⟨h1, h2⟩]
end Go.Proofs.YtjnfkomadgfggaaDoor.Pu
end
section
namespace Go.Proofs.YtjnfkomadgfggaaDoor.Pu
set_option linter.unusedSimpArgs false
set_option linter.unusedVariables false
open Go.RowKit Go.Proofs.YtjnfkomadgfggaaDoorW.PrintWords Go.Proofs.YtjnfkomadgfggaaDoor.PZ
theorem toInt64S_l0 (l : List Int) (hl : l.length ≤ 1048576) (d : Nat) : ∀ i : Nat, i + d = l.length → Ev (fun k => laws_toInt64S.l0 k l (l.take i ++ List.replicate d 0) (i : Int)) l := by
  induction d with
  | zero =>
    intro i hi
    apply Ev_succ
    simp only [laws_toInt64S.l0, if_neg (show ¬ ((i : Int) < (l.length : Int)) by omega), List.take_of_length_le (show l.length ≤ i by omega), List.replicate_zero, List.append_nil]
    exact Ev.now _
  | succ d ih =>
    intro i hi
    have hlt : i < l.length := by omega
    have hlen : (l.take i ++ List.replicate (d + 1) (0 : Int)).length = l.length := by
      rw [List.length_append, List.length_take, List.length_replicate]
      omega
    have hrd : rd l (i : Int) = l[i] := by simp [rd, List.getD_eq_getElem?_getD, List.getElem?_eq_getElem hlt]
    apply Ev_succ
    simp only [laws_toInt64S.l0, hlen, if_pos (show (i : Int) < (l.length : Int) by omega), if_pos (show 0 ≤ (i : Int) by omega), Int.toNat_natCast, wr (show -9223372036854775808 ≤ (i : Int) + 1 by omega) (by omega)]
    rw [set_copy l 0 i d hi (rd l (i : Int)) (by rw [hrd]; exact List.getElem?_eq_getElem hlt)]
    have h2 := ih (i + 1) (by omega)
    rwa [show ((i + 1 : Nat) : Int) = (i : Int) + 1 by omega] at h2
theorem toInt64S_eq (l : List Int) (hl : l.length ≤ 1048576) : Ev (fun k => laws_toInt64S.f k l) l := by
  unfold laws_toInt64S.f
  simp only [if_pos (show 0 ≤ (l.length : Int) by omega), Int.toNat_natCast, if_pos (show l.length ≤ 35184372088832 by omega)]
  exact toInt64S_l0 l hl l.length 0 (by omega)
theorem eqInt64S_l0 (l : List Int) (hl : l.length ≤ 1048576) (d : Nat) : ∀ i : Nat, i + d = l.length → Ev (fun k => laws_eqInt64S.l0 k l l (i : Int)) true := by
  induction d with
  | zero =>
    intro i hi
    apply Ev_succ
    simp only [laws_eqInt64S.l0, if_neg (show ¬ ((i : Int) < (l.length : Int)) by omega)]
    exact Ev.now _
  | succ d ih =>
    intro i hi
    apply Ev_succ
    simp only [laws_eqInt64S.l0, if_pos (show (i : Int) < (l.length : Int) by omega), if_pos (show 0 ≤ (i : Int) by omega), if_true, wr (show -9223372036854775808 ≤ (i : Int) + 1 by omega) (by omega)]
    have h2 := ih (i + 1) (by omega)
    rwa [show ((i + 1 : Nat) : Int) = (i : Int) + 1 by omega] at h2
theorem eqInt64S_eq (l : List Int) (hl : l.length ≤ 1048576) : Ev (fun k => laws_eqInt64S.f k l l) true := by
  unfold laws_eqInt64S.f
  simp only [if_true]
  exact eqInt64S_l0 l hl l.length 0 (by omega)
end Go.Proofs.YtjnfkomadgfggaaDoor.Pu
end
section
namespace Go.Proofs.YtjnfkomadgfggaaDoor.Pu
set_option linter.unusedSimpArgs false
set_option linter.unusedVariables false
open Go.RowKit Go.Proofs.YtjnfkomadgfggaaDoorW.PrintWords Go.Proofs.YtjnfkomadgfggaaDoor.PZ
def nmT (p : Int) : List UInt8 := (toneB (p % 12) ++ octB (p / 12)).data.toList
theorem nmT_mk (p : Int) : toneB (p % 12) ++ octB (p / 12) = ⟨(nmT p).toArray⟩ := by
  apply bytes_ext
  simp [nmT]
theorem octB_size' (o : Int) (h : o = -1 ∨ o = 0 ∨ o = 1) : (octB o).size ≤ 1 := by rcases h with rfl | rfl | rfl <;> decide
theorem nmT_length (p : Int) (p0 : -12 ≤ p) (p1 : p ≤ 23) : (nmT p).length ≤ 200 := by
  have e := toneB_size (p % 12) (by omega) (by omega)
  have f := octB_size' (p / 12) (by omega)
  have h : (toneB (p % 12) ++ octB (p / 12)).size ≤ 200 := by rw [ByteArray.size_append]; omega
  rw [nmT_mk, size_mk] at h
  exact h
theorem l09Name_eq (p : Int) (p0 : -12 ≤ p) (p1 : p ≤ 23) : spec_l09Name.f p = some ⟨(nmT p).toArray⟩ := by
  have h : ∀ i : Nat, i < 36 → spec_l09Name.f ((i : Int) - 12) = some (toneB (((i : Int) - 12) % 12) ++ octB (((i : Int) - 12) / 12)) := by decide +kernel
  have h1 := h (p + 12).toNat (by omega)
  rw [show (((p + 12).toNat : Nat) : Int) - 12 = p by omega] at h1
  rw [h1, nmT_mk]
theorem pitchText_eq (p : Int) (p0 : -12 ≤ p) (p1 : p ≤ 23) : impl_pitchText.f p = some ⟨(nmT p).toArray⟩ := by
  unfold impl_pitchText.f
  rw [if_pos ⟨p0, p1⟩, nmT_mk]
def noT (p n : Int) : List UInt8 := nmT p ++ (if n = 1 then [] else Lib.itoa n)
theorem noT_length (p n : Int) (p0 : -12 ≤ p) (p1 : p ≤ 23) (n0 : 1 ≤ n) (n1 : n ≤ 64) : (noT p n).length ≤ 220 := by
  have h1 := nmT_length p p0 p1
  have h2 := itoa_length n (by omega) (by omega)
  unfold noT
  rw [List.length_append]
  split
  · simp only [List.length_nil]; omega
  · omega
theorem noteText_eq (p n : Int) (p0 : -12 ≤ p) (p1 : p ≤ 23) (n0 : 1 ≤ n) (n1 : n ≤ 64) : impl_noteText.f p n = some ⟨(noT p n).toArray⟩ := by
  have h1 := nmT_length p p0 p1
  have h2 := itoa_length n (by omega) (by omega)
  unfold impl_noteText.f noT
  simp only [pitchText_eq p p0 p1, Decimal_eq n (by omega) (by omega), Option.bind_some, size_mk, app_mk]
  by_cases h : n = 1
  · rw [if_pos h, if_pos h, List.append_nil]
  · rw [if_neg h, if_neg h, if_pos (by omega)]
theorem l09Text_eq (p n : Int) (p0 : -12 ≤ p) (p1 : p ≤ 23) (n0 : 1 ≤ n) (n1 : n ≤ 64) : Ev (fun k => spec_l09Text.f k [(⟨p, n⟩ : S44)]) ⟨(noT p n).toArray⟩ := by
  have h1 := nmT_length p p0 p1
  have h2 := itoa_length n (by omega) (by omega)
  have e0 : rd_T44 [(⟨p, n⟩ : S44)] 0 = ⟨p, n⟩ := rfl
  have el : (([(⟨p, n⟩ : S44)]).length : Int) = 1 := rfl
  have e1 : (⟨#[]⟩ : ByteArray) = ⟨([] : List UInt8).toArray⟩ := rfl
  have e2 : wrap64 ((0 : Int) + 1) = 1 := by rw [wr (by omega) (by omega)]; omega
  have hend : ∀ s : ByteArray, Ev (fun k => spec_l09Text.l0 k [(⟨p, n⟩ : S44)] s 1) s := by
    intro s
    apply Ev_succ
    simp only [spec_l09Text.l0, el, if_neg (show ¬ ((1 : Int) < 1) by omega)]
    exact Ev.now _
  unfold spec_l09Text.f noT
  simp only [el, if_neg (show ¬ ((1 : Int) = 0) by omega)]
  apply Ev_succ
  simp only [spec_l09Text.l0, el, if_pos (show (0 : Int) < 1 by omega), if_neg (show ¬ ((0 : Int) > 0) by omega)]
  apply Ev_succ
  simp only [spec_l09Text.j1, el, if_pos (show (0 : Int) < 1 by omega), if_pos (show (0 : Int) ≤ 0 by omega), e0, l09Name_eq p p0 p1, Option.bind_some, e1, size_mk, app_mk, List.length_nil, List.nil_append, if_pos (show 0 + (nmT p).length ≤ 9223372036854775807 by omega), e2]
  by_cases h : n = 1
  · simp only [if_pos h, List.append_nil]
    exact hend _
  · simp only [if_neg h]
    refine Ev.bind (l01Dec_eq n (by omega) (by omega)) ?_
    simp only [size_mk, app_mk, if_pos (show (nmT p).length + (Lib.itoa n).length ≤ 9223372036854775807 by omega)]
    exact hend _
def wT (m : List S44) (p : Pc) : List UInt8 := (if p.later = true then [126] else []) ++ noT (rd_T44 m p.i).f0 p.n
def barT (l : List Int) (sp : Int) (p : Pc) : List (List UInt8) := if leftP l sp p.t = wholeP l sp p.t then (if secP l sp p.t = 0 then [[124, 124]] else [[124]]) else []
def tailW (m : List S44) (l : List Int) (sp : Int) (P : List Pc) : List (List UInt8) := P.flatMap fun p => barT l sp p ++ [wT m p]
def tailB (m : List S44) (l : List Int) (sp : Int) (P : List Pc) : List UInt8 := (tailW m l sp P).flatMap fun x => [32] ++ x
structure Fit (m : List S44) (l : List Int) (sp : Int) (p : Pc) : Prop where
  i0 : 0 ≤ p.i
  i1 : p.i < m.length
  p0 : -12 ≤ (rd_T44 m p.i).f0
  p1 : (rd_T44 m p.i).f0 ≤ 23
  n0 : 1 ≤ p.n
  n1 : p.n ≤ 64
  t0 : 0 ≤ p.t
  t1 : p.t + p.n ≤ 100000
  at_ : ∃ q k r, AtT l sp p.t q k r
theorem wT_length (m : List S44) (l : List Int) (sp : Int) (p : Pc) (f : Fit m l sp p) : (wT m p).length ≤ 221 := by
  have := noT_length _ _ f.p0 f.p1 f.n0 f.n1
  unfold wT
  rw [List.length_append]
  split
  · simp only [List.length_singleton]; omega
  · simp only [List.length_nil]; omega
theorem tailB_cons (m : List S44) (l : List Int) (sp : Int) (p : Pc) (P : List Pc) : tailB m l sp (p :: P) = ((barT l sp p).flatMap fun x => [32] ++ x) ++ (32 :: wT m p) ++ tailB m l sp P := by
  simp [tailB, tailW, List.flatMap_append]
theorem tailB_length (m : List S44) (l : List Int) (sp : Int) (P : List Pc) (h : ∀ p ∈ P, Fit m l sp p) : (tailB m l sp P).length ≤ 300 * P.length := by
  induction P with
  | nil => simp [tailB, tailW]
  | cons p P ih =>
    have h1 := wT_length m l sp p (h p (by simp))
    have h2 := ih (fun q hq => h q (by simp [hq]))
    rw [tailB_cons, List.length_append, List.length_append, List.length_cons, List.length_cons]
    have h3 : ((barT l sp p).flatMap fun x => [32] ++ x).length ≤ 3 := by
      unfold barT
      split
      · split <;> simp
      · simp
    omega
theorem rdP (P : List Pc) (j : Nat) (h : j < P.length) : rd_L4 (P.map toPart) (j : Int) = [P[j].i, P[j].n] := by
  simp [rd_L4, List.getD_eq_getElem?_getD, List.getElem?_map, List.getElem?_eq_getElem h, toPart]
theorem rdI (m : List S44) (l : List Int) (sp : Int) (P : List Pc) (j : Nat) (h : j < P.length) : rd_T65 (P.map (toPiece l sp)) (j : Int) = toPiece l sp P[j] := by
  simp [rd_T65, List.getD_eq_getElem?_getD, List.getElem?_map, List.getElem?_eq_getElem h]
theorem l25Text_j2 (m : List S44) (t : S32) (sp : Int) (P : List Pc) (hP : P.length ≤ 100000) (j : Nat) (hj : j < P.length) (f : Fit m t.f1 sp P[j]) (acc : List UInt8) (ha : acc.length ≤ 1000000000) (r : ByteArray)
    (hr : Ev (fun k => spec_l25Text.l0 k m [t] sp (P.map toPart) ⟨(acc ++ wT m P[j]).toArray⟩ (P[j].t + P[j].n) ((j : Int) + 1)) r) :
    Ev (fun k => spec_l25Text.j2 k m [t] sp (P.map toPart) ⟨acc.toArray⟩ P[j].t (j : Int) P[j].later) r := by
  have hn := noT_length _ _ f.p0 f.p1 f.n0 f.n1
  have e1 : (j : Int) < ((P.map toPart).length : Int) := by rw [List.length_map]; omega
  have e2 : ∀ a b : Int, rd [a, b] 0 = a := fun _ _ => rfl
  have e3 : ∀ a b : Int, rd [a, b] 1 = b := fun _ _ => rfl
  have e4 : ∀ a b : Int, (([a, b] : List Int).length : Int) = 2 := fun _ _ => rfl
  have f1 := f.i0
  have f2 := f.i1
  have f3 := f.t0
  have f4 := f.t1
  have f5 := f.n0
  apply Ev_succ
  cases hl : P[j].later with
  | true =>
    have e5 : (⟨acc.toArray⟩ : ByteArray) ++ ⟨#[126]⟩ = ⟨(acc ++ [126]).toArray⟩ := app_mk acc [126]
    simp only [spec_l25Text.j2, if_true, size_mk, if_pos (show acc.length + 1 ≤ 9223372036854775807 by omega), if_pos (show (0 : Int) ≤ (j : Int) by omega), if_pos e1, rdP P j hj, e2, e3, e4, if_pos (show (0 : Int) < 2 by omega), if_pos (show (1 : Int) < 2 by omega), if_pos f1, if_pos f2]
    refine Ev.bind (l09Text_eq _ _ f.p0 f.p1 f.n0 f.n1) ?_
    simp only [e5, size_mk, app_mk, List.length_append, List.length_singleton, if_pos (show acc.length + 1 + (noT (rd_T44 m P[j].i).f0 P[j].n).length ≤ 9223372036854775807 by omega), wr (show -9223372036854775808 ≤ P[j].t + P[j].n by omega) (by omega), wr (show -9223372036854775808 ≤ (j : Int) + 1 by omega) (by omega)]
    unfold wT at hr
    rw [hl, if_pos rfl, ← List.append_assoc] at hr
    exact hr
  | false =>
    simp only [spec_l25Text.j2, Bool.false_eq_true, if_false, size_mk, if_pos (show (0 : Int) ≤ (j : Int) by omega), if_pos e1, rdP P j hj, e2, e3, e4, if_pos (show (0 : Int) < 2 by omega), if_pos (show (1 : Int) < 2 by omega), if_pos f1, if_pos f2]
    refine Ev.bind (l09Text_eq _ _ f.p0 f.p1 f.n0 f.n1) ?_
    simp only [size_mk, app_mk, if_pos (show acc.length + (noT (rd_T44 m P[j].i).f0 P[j].n).length ≤ 9223372036854775807 by omega), wr (show -9223372036854775808 ≤ P[j].t + P[j].n by omega) (by omega), wr (show -9223372036854775808 ≤ (j : Int) + 1 by omega) (by omega)]
    unfold wT at hr
    rw [hl, if_neg (by decide), List.nil_append] at hr
    exact hr
theorem l25Text_j1 (m : List S44) (t : S32) (sp : Int) (P : List Pc) (hP : P.length ≤ 100000) (j : Nat) (hj : j < P.length) (h0 : 0 < j) (hlater : P[j].later = decide (P[j - 1].i = P[j].i)) (f : Fit m t.f1 sp P[j]) (acc : List UInt8) (ha : acc.length ≤ 1000000000) (r : ByteArray)
    (hr : Ev (fun k => spec_l25Text.l0 k m [t] sp (P.map toPart) ⟨(acc ++ wT m P[j]).toArray⟩ (P[j].t + P[j].n) ((j : Int) + 1)) r) :
    Ev (fun k => spec_l25Text.j1 k m [t] sp (P.map toPart) ⟨acc.toArray⟩ P[j].t (j : Int)) r := by
  have e1 : (j : Int) < ((P.map toPart).length : Int) := by rw [List.length_map]; omega
  have e2 : ∀ a b : Int, rd [a, b] 0 = a := fun _ _ => rfl
  have e4 : ∀ a b : Int, (([a, b] : List Int).length : Int) = 2 := fun _ _ => rfl
  have e5 : wrap64 ((j : Int) - 1) = ((j - 1 : Nat) : Int) := by rw [wr (by omega) (by omega)]; omega
  have e6 : ((j - 1 : Nat) : Int) < ((P.map toPart).length : Int) := by rw [List.length_map]; omega
  have h := l25Text_j2 m t sp P hP j hj f acc ha r hr
  rw [hlater, show decide (P[j - 1].i = P[j].i) = (P[j - 1].i == P[j].i) from rfl] at h
  apply Ev_succ
  simp only [spec_l25Text.j1, if_pos (show (j : Int) > 0 by omega), e5, if_pos (show (0 : Int) ≤ ((j - 1 : Nat) : Int) by omega), if_pos e6, rdP P (j - 1) (by omega), rdP P j hj, e2, e4, if_pos (show (0 : Int) < 2 by omega), if_pos (show (0 : Int) ≤ (j : Int) by omega), if_pos e1]
  exact h
theorem l25Text_l0 (m : List S44) (t : S32) (sp : Int) (g : Good t.f1 sp) (P : List Pc) (hP : P.length ≤ 10000) (hf : ∀ p ∈ P, Fit m t.f1 sp p) (hc : ∀ j : Nat, (h : j < P.length) → 0 < j → P[j].t = P[j - 1].t + P[j - 1].n ∧ P[j].later = decide (P[j - 1].i = P[j].i)) (d : Nat) :
    ∀ (j : Nat) (acc : List UInt8) (tm : Int), 0 < j → j + d = P.length → (∀ h : j < P.length, tm = P[j].t) → acc.length + 300 * d ≤ 100000000 →
    Ev (fun k => spec_l25Text.l0 k m [t] sp (P.map toPart) ⟨acc.toArray⟩ tm (j : Int)) ⟨(acc ++ tailB m t.f1 sp (P.drop j)).toArray⟩ := by
  induction d with
  | zero =>
    intro j acc tm h0 hj ht ha
    apply Ev_succ
    simp only [spec_l25Text.l0, if_neg (show ¬ ((j : Int) < ((P.map toPart).length : Int)) by rw [List.length_map]; omega), List.drop_of_length_le (show P.length ≤ j by omega)]
    simp only [tailB, tailW, List.flatMap_nil, List.append_nil]
    exact Ev.now _
  | succ d ih =>
    intro j acc tm h0 hj ht ha
    have hlt : j < P.length := by omega
    have f := hf P[j] (List.getElem_mem hlt)
    have htm := ht hlt
    subst htm
    have hw := wT_length m t.f1 sp P[j] f
    have e1 : (j : Int) < ((P.map toPart).length : Int) := by rw [List.length_map]; omega
    have e2 : (⟨acc.toArray⟩ : ByteArray) ++ ⟨#[32]⟩ = ⟨(acc ++ [32]).toArray⟩ := app_mk acc [32]
    have hnext : ∀ bar : List UInt8, bar.length ≤ 4 → ((barT t.f1 sp P[j]).flatMap fun x => [32] ++ x) ++ [32] = bar →
        Ev (fun k => spec_l25Text.j1 k m [t] sp (P.map toPart) ⟨(acc ++ bar).toArray⟩ P[j].t (j : Int)) ⟨(acc ++ tailB m t.f1 sp (P.drop j)).toArray⟩ := by
      intro bar hb hbar
      have h2 := ih (j + 1) (acc ++ bar ++ wT m P[j]) (P[j].t + P[j].n) (by omega) (by omega) (fun h => by have := (hc (j + 1) h (by omega)).1; rw [this]; rfl) (by simp only [List.length_append]; omega)
      rw [show ((j + 1 : Nat) : Int) = (j : Int) + 1 by omega] at h2
      refine l25Text_j1 m t sp P (by omega) j hlt h0 (hc j hlt h0).2 f (acc ++ bar) (by rw [List.length_append]; omega) _ ?_
      rw [List.drop_eq_getElem_cons hlt, tailB_cons, ← hbar]
      rw [← hbar] at h2
      simpa using h2
    apply Ev_succ
    simp only [spec_l25Text.l0, if_pos e1, if_pos (show (j : Int) > 0 by omega), size_mk, if_pos (show acc.length + 1 ≤ 9223372036854775807 by omega)]
    refine Ev.bind (Left_eq t sp P[j].t g f.at_ f.t0) ?_
    refine Ev.bind (Whole_eq t sp P[j].t g f.at_ f.t0) ?_
    obtain ⟨q, k, r, a⟩ := f.at_
    by_cases hs : leftP t.f1 sp P[j].t = wholeP t.f1 sp P[j].t
    · simp only [if_pos hs]
      have hu := g.units
      refine Ev.bind (Units_eq t sp g) ?_
      have hr := (a.start g.pos g.s1).1 hs
      have hsam := a.sam g.pos g.s1 hr
      have hk := a.secp g.pos g.s1
      simp only [if_neg (show ¬ (sumL t.f1 * sp = 0) by omega), Int.tmod_eq_emod_of_nonneg f.t0]
      by_cases h1 : P[j].t % (sumL t.f1 * sp) = 0
      · have e3 : (⟨(acc ++ [32]).toArray⟩ : ByteArray) ++ ⟨#[124, 124, 32]⟩ = ⟨(acc ++ [32] ++ [124, 124, 32]).toArray⟩ := app_mk (acc ++ [32]) [124, 124, 32]
        simp only [if_pos h1, e2, size_mk, List.length_append, List.length_singleton, if_pos (show acc.length + 1 + 3 ≤ 9223372036854775807 by omega), e3]
        rw [List.append_assoc]
        refine hnext _ (by simp) ?_
        unfold barT
        rw [if_pos hs, if_pos (by rw [hk]; exact hsam.1 h1)]
        rfl
      · have e3 : (⟨(acc ++ [32]).toArray⟩ : ByteArray) ++ ⟨#[124, 32]⟩ = ⟨(acc ++ [32] ++ [124, 32]).toArray⟩ := app_mk (acc ++ [32]) [124, 32]
        simp only [if_neg h1, e2, size_mk, List.length_append, List.length_singleton, if_pos (show acc.length + 1 + 2 ≤ 9223372036854775807 by omega), e3]
        rw [List.append_assoc]
        refine hnext _ (by simp) ?_
        unfold barT
        rw [if_pos hs, if_neg (by rw [hk]; exact fun h => h1 (hsam.2 h))]
        rfl
    · simp only [if_neg hs, e2]
      refine hnext _ (by simp) ?_
      unfold barT
      rw [if_neg hs]
      rfl
theorem chain_get (P : List Pc) : ∀ (pi t : Int), chainP pi t P → ∀ j : Nat, (h : j < P.length) → 0 < j → P[j].t = P[j - 1].t + P[j - 1].n ∧ P[j].later = decide (P[j - 1].i = P[j].i) := by
  induction P with
  | nil => intro pi t h j hj; simp at hj
  | cons p P ih =>
    intro pi t h j hj h0
    obtain ⟨h1, h2, h3⟩ := h
    cases j with
    | zero => omega
    | succ j =>
      cases j with
      | zero =>
        cases P with
        | nil => simp at hj
        | cons q P =>
          obtain ⟨g1, g2, g3⟩ := h3
          simp only [Nat.zero_add, List.getElem_cons_succ, List.getElem_cons_zero, Nat.sub_self]
          exact ⟨by omega, g2⟩
      | succ j =>
        have := ih p.i (t + p.n) h3 (j + 1) (by simpa using hj) (by omega)
        simpa using this
theorem l25Text_eq (m : List S44) (t : S32) (sp : Int) (g : Good t.f1 sp) (p : Pc) (P : List Pc) (hP : (p :: P).length ≤ 10000) (hf : ∀ x ∈ p :: P, Fit m t.f1 sp x) (hc : chainP (-1) 0 (p :: P)) :
    Ev (fun k => spec_l25Text.l0 k m [t] sp ((p :: P).map toPart) ⟨#[]⟩ 0 0) ⟨(wT m p ++ tailB m t.f1 sp P).toArray⟩ := by
  have f := hf p (by simp)
  have hw := wT_length m t.f1 sp p f
  have hlen : (p :: P).length = P.length + 1 := rfl
  obtain ⟨c1, c2, c3⟩ := hc
  have hlat : p.later = false := by rw [c2]; exact decide_eq_false (by have := f.i0; omega)
  have h2 := l25Text_l0 m t sp g (p :: P) hP hf (chain_get (p :: P) (-1) 0 ⟨c1, c2, c3⟩) P.length 1 (wT m p) (p.t + p.n) (by omega) (by omega) (fun h => by
    have := (chain_get (p :: P) (-1) 0 ⟨c1, c2, c3⟩ 1 h (by omega)).1
    rw [this]
    rfl) (by omega)
  have h3 := l25Text_j2 m t sp (p :: P) (by omega) 0 (by omega) f [] (by simp) _ h2
  have e1 : (⟨#[]⟩ : ByteArray) = ⟨([] : List UInt8).toArray⟩ := rfl
  apply Ev_succ
  simp only [spec_l25Text.l0, if_pos (show (0 : Int) < (((p :: P).map toPart).length : Int) by simp), if_neg (show ¬ ((0 : Int) > 0) by omega)]
  apply Ev_succ
  simp only [spec_l25Text.j1, if_neg (show ¬ ((0 : Int) > 0) by omega)]
  simp only [List.getElem_cons_zero, hlat, c1, Int.natCast_zero] at h3
  rw [e1]
  exact h3
set_option maxHeartbeats 1000000 in
theorem notate_l0 (m : List S44) (l : List Int) (sp : Int) (P : List Pc) (hP : P.length ≤ 10000) (hf : ∀ p ∈ P, Fit m l sp p) (W : List (List UInt8)) (r : List UInt8) (hr : Lib.join W [32] = r) (hrl : r.length ≤ 100000000) (hW : W.length ≤ 100000) (d : Nat) :
    ∀ (j : Nat) (acc : List (List UInt8)), 0 < j → j + d = P.length → acc ++ tailW m l sp (P.drop j) = W →
    Ev (fun k => impl_notate.l0 k m (P.map (toPiece l sp)) (acc.map fun x => ⟨x.toArray⟩) (P.map (toPiece l sp)) (P.length : Int) (j : Int)) (⟨r.toArray⟩, decide (P.length ≤ 128)) := by
  induction d with
  | zero =>
    intro j acc h0 hj hacc
    rw [List.drop_of_length_le (show P.length ≤ j by omega)] at hacc
    simp only [tailW, List.flatMap_nil, List.append_nil] at hacc
    subst hacc
    apply Ev_succ
    simp only [impl_notate.l0, if_neg (show ¬ ((j : Int) < (P.length : Int)) by omega)]
    have e : Lib.join ((acc.map fun x => (⟨x.toArray⟩ : ByteArray)).map (·.data.toList)) (⟨#[32]⟩ : ByteArray).data.toList = r := by
      rw [← hr, List.map_map]
      congr 1
      exact (List.map_congr_left (fun x _ => by simp)).trans (List.map_id _)
    unfold strings_Join.f
    rw [e]
    simp only [if_pos (show r.length ≤ 140737488355328 ∧ (acc.map fun x => (⟨x.toArray⟩ : ByteArray)).length ≤ 140737488355328 from ⟨by omega, by rw [List.length_map]; omega⟩), Option.bind_some]
    simp only [List.length_map]
    rw [show decide ((P.length : Int) ≤ 128) = decide (P.length ≤ 128) by simp; omega]
    exact Ev.now _
  | succ d ih =>
    intro j acc h0 hj hacc
    have hlt : j < P.length := by omega
    have f := hf P[j] (List.getElem_mem hlt)
    have hn := noT_length _ _ f.p0 f.p1 f.n0 f.n1
    have f1 := f.i0
    have f2 := f.i1
    rw [List.drop_eq_getElem_cons hlt] at hacc
    have hacc2 : acc ++ (barT l sp P[j] ++ [wT m P[j]]) ++ tailW m l sp (P.drop (j + 1)) = W := by
      rw [← hacc]
      unfold tailW
      rw [List.flatMap_cons, List.append_assoc]
    have hlenW : acc.length + 2 ≤ 200000 := by
      have := congrArg List.length hacc2
      simp only [List.length_append, List.length_singleton] at this
      omega
    have h2 := ih (j + 1) _ (by omega) (by omega) hacc2
    rw [show ((j + 1 : Nat) : Int) = (j : Int) + 1 by omega] at h2
    have eL : ((P.map (toPiece l sp)).length : Int) = (P.length : Int) := by rw [List.length_map]
    have e126 : ∀ x : List UInt8, (⟨#[126]⟩ : ByteArray) ++ ⟨x.toArray⟩ = ⟨([126] ++ x).toArray⟩ := fun x => app_mk [126] x
    obtain ⟨q, k, rr, a⟩ := f.at_
    apply Ev_succ
    simp only [impl_notate.l0, if_pos (show (j : Int) < (P.length : Int) by omega), if_pos (show (0 : Int) ≤ (j : Int) by omega), eL, if_neg (show ¬ ((j : Int) = 0) by omega), rdI m l sp P j hlt]
    apply Ev_succ
    simp only [impl_notate.j1, toPiece, decide_eq_true_eq, if_pos f1, if_pos f2, noteText_eq _ _ f.p0 f.p1 f.n0 f.n1, Option.bind_some, size_mk, if_pos (show 1 + (noT (rd_T44 m P[j].i).f0 P[j].n).length ≤ 9223372036854775807 by omega), e126, List.length_append, List.length_map, List.length_singleton,
      if_pos (show acc.length < 8796093022208 by omega), if_pos (show acc.length + 1 < 8796093022208 by omega), wr (show -9223372036854775808 ≤ (j : Int) + 1 by omega) (by omega)]
    by_cases hs : leftP l sp P[j].t = wholeP l sp P[j].t
    · by_cases hz : secP l sp P[j].t = 0
      · have es : secOf l sp P[j] = 0 := by unfold secOf; rw [if_pos hs, hz]; rfl
        rw [show barT l sp P[j] = [[124, 124]] by unfold barT; rw [if_pos hs, if_pos hz]] at h2
        simp only [es, if_neg (show ¬ ((0 : Int) < 0) by omega), if_true]
        cases hl : P[j].later with
        | true =>
          rw [show wT m P[j] = [126] ++ noT (rd_T44 m P[j].i).f0 P[j].n by unfold wT; rw [hl, if_pos rfl]] at h2
          simp only [if_true]
          rw [List.map_append, List.map_append, ← List.append_assoc] at h2
          exact h2
        | false =>
          rw [show wT m P[j] = noT (rd_T44 m P[j].i).f0 P[j].n by unfold wT; rw [hl, if_neg (by decide), List.nil_append]] at h2
          simp only [Bool.false_eq_true, if_false]
          rw [List.map_append, List.map_append, ← List.append_assoc] at h2
          exact h2
      · have es : secOf l sp P[j] = (secP l sp P[j].t : Int) := by unfold secOf; rw [if_pos hs]
        rw [show barT l sp P[j] = [[124]] by unfold barT; rw [if_pos hs, if_neg hz]] at h2
        simp only [es, if_neg (show ¬ ((secP l sp P[j].t : Int) < 0) by omega), if_neg (show ¬ ((secP l sp P[j].t : Int) = 0) by omega)]
        cases hl : P[j].later with
        | true =>
          rw [show wT m P[j] = [126] ++ noT (rd_T44 m P[j].i).f0 P[j].n by unfold wT; rw [hl, if_pos rfl]] at h2
          simp only [if_true]
          rw [List.map_append, List.map_append, ← List.append_assoc] at h2
          exact h2
        | false =>
          rw [show wT m P[j] = noT (rd_T44 m P[j].i).f0 P[j].n by unfold wT; rw [hl, if_neg (by decide), List.nil_append]] at h2
          simp only [Bool.false_eq_true, if_false]
          rw [List.map_append, List.map_append, ← List.append_assoc] at h2
          exact h2
    · have es : secOf l sp P[j] = -1 := by unfold secOf; rw [if_neg hs]
      rw [show barT l sp P[j] = [] by unfold barT; rw [if_neg hs]] at h2
      simp only [es, if_pos (show (-1 : Int) < 0 by omega)]
      cases hl : P[j].later with
      | true =>
        rw [show wT m P[j] = [126] ++ noT (rd_T44 m P[j].i).f0 P[j].n by unfold wT; rw [hl, if_pos rfl]] at h2
        simp only [if_true]
        rw [List.nil_append, List.map_append] at h2
        exact h2
      | false =>
        rw [show wT m P[j] = noT (rd_T44 m P[j].i).f0 P[j].n by unfold wT; rw [hl, if_neg (by decide), List.nil_append]] at h2
        simp only [Bool.false_eq_true, if_false]
        rw [List.nil_append, List.map_append] at h2
        exact h2
theorem notate_first (m : List S44) (l : List Int) (sp : Int) (p : Pc) (P : List Pc) (hP : (p :: P).length ≤ 10000) (hf : ∀ x ∈ p :: P, Fit m l sp x) (hlat : p.later = false) :
    Ev (fun k => impl_notate.l0 k m ((p :: P).map (toPiece l sp)) [] ((p :: P).map (toPiece l sp)) (((p :: P).map (toPiece l sp)).length : Int) 0) (⟨(wT m p ++ tailB m l sp P).toArray⟩, decide ((p :: P).length ≤ 128)) := by
  have f := hf p (by simp)
  have hn := noT_length _ _ f.p0 f.p1 f.n0 f.n1
  have hw := wT_length m l sp p f
  have hlen : (p :: P).length = P.length + 1 := rfl
  have f1 := f.i0
  have f2 := f.i1
  have hr : Lib.join ([wT m p] ++ tailW m l sp P) [32] = wT m p ++ tailB m l sp P := join_tail _ _ _
  have hb := tailB_length m l sp P (fun x hx => hf x (by simp [hx]))
  have hWl : ([wT m p] ++ tailW m l sp P).length ≤ 100000 := by
    have : ∀ Q : List Pc, (tailW m l sp Q).length ≤ 2 * Q.length := by
      intro Q
      induction Q with
      | nil => simp [tailW]
      | cons x Q ih =>
        unfold tailW at ih ⊢
        simp only [List.flatMap_cons, List.length_append, List.length_cons, List.length_nil]
        have h3 : (barT l sp x).length ≤ 1 := by
          unfold barT
          split
          · split <;> simp
          · simp
        omega
    have := this P
    rw [List.length_append, List.length_singleton]
    omega
  have h2 := notate_l0 m l sp (p :: P) hP hf _ _ hr (by rw [List.length_append]; omega) hWl P.length 1 [wT m p] (by omega) (by omega) rfl
  rw [show wT m p = noT (rd_T44 m p.i).f0 p.n by unfold wT; rw [hlat, if_neg (by decide), List.nil_append]] at h2 ⊢
  have e0 : rd_T65 ((p :: P).map (toPiece l sp)) 0 = toPiece l sp p := rfl
  have eL : (((p :: P).map (toPiece l sp)).length : Int) = ((p :: P).length : Int) := by rw [List.length_map]
  apply Ev_succ
  simp only [impl_notate.l0, eL, if_pos (show (0 : Int) < ((p :: P).length : Int) by omega), if_pos (show (0 : Int) ≤ 0 by omega), if_true, e0]
  apply Ev_succ
  simp only [impl_notate.j1, toPiece, if_true, if_pos f1, if_pos f2, noteText_eq _ _ f.p0 f.p1 f.n0 f.n1, Option.bind_some, hlat, Bool.false_eq_true, if_false, List.length_nil, if_pos (show 0 < 8796093022208 by omega), List.nil_append, wr (show -9223372036854775808 ≤ (0 : Int) + 1 by omega) (by omega)]
  exact h2
def barsR (m : List S44) (l : List Int) (sp : Int) : ByteArray × Int :=
  match cutM l sp m 0 0 with
  | [] => (⟨#[45]⟩, 0)
  | p :: P => if (p :: P).length ≤ 128 then (⟨(wT m p ++ tailB m l sp P).toArray⟩, 0) else (⟨#[]⟩, 5)
theorem cut_facts (m : List S44) (l : List Int) (sp : Int) (hm : okMel m = true) (g : Good l sp) :
    (cutM l sp m 0 0).length ≤ 3072 ∧ (∀ p ∈ cutM l sp m 0 0, Fit m l sp p) ∧ chainP (-1) 0 (cutM l sp m 0 0) ∧ (cutM l sp m 0 0 = [] → m = []) := by
  obtain ⟨h1, h2⟩ := okMel_wf hm
  have hz : ∃ q k r, AtT l sp 0 q k r := ⟨0, 0, 0, AtT.zero g.pos (by have := g.l1; omega) g.s1⟩
  obtain ⟨a, b⟩ := cutM_mem g.pos g.s1 m 0 0 hz (fun x hx => by have := h2 x hx; omega)
  refine ⟨by omega, fun p hp => ?_, chain_cutM g.pos g.s1 m 0 0 (-1) hz (fun x hx => by have := h2 x hx; omega) (by omega), fun h => ?_⟩
  · obtain ⟨b1, b2, b3, b4, b5, b6, b7⟩ := b p hp
    have hj : p.i.toNat < m.length := by omega
    have hx := h2 (rd_T44 m (p.i.toNat : Int)) (by rw [rdN_mem m _ hj]; exact List.getElem_mem hj)
    rw [show ((p.i.toNat : Nat) : Int) = p.i by omega] at hx
    exact ⟨b1, by omega, hx.1, hx.2.1, b3, b4, b5, by omega, b7⟩
  · cases m with
    | nil => rfl
    | cons x r =>
      have hx := h2 x (by simp)
      unfold cutM at h
      obtain ⟨u, hu⟩ : ∃ u, x.f1.toNat = u + 1 := ⟨x.f1.toNat - 1, by omega⟩
      rw [hu] at h
      unfold cutN at h
      rw [if_neg (by omega)] at h
      simp at h
theorem sBars_eq (m : List S44) (t : S32) (sp : Int) (hm : okMel m = true) (g : Good t.f1 sp) :
    Ev (fun k => (spec_l25Split.f k m [t] sp).bind fun t226 => if (t226.length : Int) > 128 then some ((⟨#[]⟩ : ByteArray), (5 : Int)) else (spec_l25Text.f k m [t] sp).bind fun t229 => some (t229, 0)) (barsR m t.f1 sp) := by
  obtain ⟨h1, h2⟩ := okMel_wf hm
  obtain ⟨c1, c2, c3, c4⟩ := cut_facts m t.f1 sp hm g
  have hsp := l25Split_eq m h1 (fun x hx => by have := h2 x hx; omega) t sp g
  have ht : Ev (fun k => spec_l25Text.f k m [t] sp) (match cutM t.f1 sp m 0 0 with | [] => ⟨#[45]⟩ | p :: P => ⟨(wT m p ++ tailB m t.f1 sp P).toArray⟩) := by
    unfold spec_l25Text.f
    refine Ev.bind hsp ?_
    cases hP : cutM t.f1 sp m 0 0 with
    | nil =>
      simp only [List.map_nil, List.length_nil, show ((0 : Nat) : Int) = 0 from rfl, if_true]
      exact Ev.now _
    | cons p P =>
      rw [hP] at c1 c2 c3
      simp only [if_neg (show ¬ ((((p :: P).map toPart).length : Nat) : Int) = 0 by simp; omega)]
      exact l25Text_eq m t sp g p P (by omega) c2 c3
  refine Ev.bind hsp ?_
  unfold barsR
  cases hP : cutM t.f1 sp m 0 0 with
  | nil =>
    rw [hP] at ht
    simp only [List.map_nil, List.length_nil, show ¬ (((0 : Nat) : Int) > 128) by omega, if_false]
    exact Ev.bind ht (Ev.now _)
  | cons p P =>
    rw [hP] at ht
    simp only [List.length_map]
    by_cases hl : (p :: P).length ≤ 128
    · simp only [if_pos hl, if_neg (show ¬ (((p :: P).length : Int) > 128) by omega)]
      exact Ev.bind ht (Ev.now _)
    · simp only [if_neg hl, if_pos (show (((p :: P).length : Int) > 128) by omega)]
      exact Ev.now _
theorem iBars_eq (m : List S44) (nm : ByteArray) (l ms : List Int) (sp : Int) (hm : okMel m = true) (g : Good l sp) :
    Ev (fun k => (impl_notate.f k m nm l ms sp).bind fun bt330 => if bt330.2 = true then some (bt330.1, (0 : Int)) else some ((⟨#[]⟩ : ByteArray), 5)) (barsR m l sp) := by
  obtain ⟨h1, h2⟩ := okMel_wf hm
  obtain ⟨c1, c2, c3, c4⟩ := cut_facts m l sp hm g
  have hsp := split_eq m h1 (fun x hx => by have := h2 x hx; omega) nm l ms sp g
  unfold barsR
  cases hP : cutM l sp m 0 0 with
  | nil =>
    have := c4 hP
    subst this
    unfold impl_notate.f
    simp only [List.length_nil, show ((0 : Nat) : Int) = 0 from rfl, if_true, Option.bind_some]
    exact Ev.now _
  | cons p P =>
    rw [hP] at c1 c2 c3
    have hne : ¬ ((m.length : Int) = 0) := by
      intro h
      have : m = [] := List.eq_nil_of_length_eq_zero (by omega)
      rw [this] at hP
      simp [cutM] at hP
    have hlat : p.later = false := by rw [c3.2.1]; exact decide_eq_false (by have := (c2 p (by simp)).i0; omega)
    have hn : Ev (fun k => impl_notate.f k m nm l ms sp) (⟨(wT m p ++ tailB m l sp P).toArray⟩, decide ((p :: P).length ≤ 128)) := by
      unfold impl_notate.f
      simp only [if_neg hne]
      refine Ev.bind hsp ?_
      rw [hP]
      exact notate_first m l sp p P (by omega) c2 hlat
    refine Ev.bind hn ?_
    by_cases hl : (p :: P).length ≤ 128
    · simp only [if_pos hl, decide_eq_true hl, if_true]
      exact Ev.now _
    · simp only [if_neg hl, decide_eq_false hl, Bool.false_eq_true, if_false]
      exact Ev.now _
theorem NotateBars_same (m : List S44) (nm : ByteArray) (l ms : List Int) (sp : Int) (hm : m.length ≤ 1048576) (hs : nm.size ≤ 9223372036854775806) :
    ∃ r : ByteArray × Int, Ev (fun k => spec_NotateBars.f k m nm l ms sp) r ∧ Ev (fun k => impl_NotateBars.f k m nm l ms sp) r := by
  obtain ⟨b, hb, hiff⟩ := l17Ok_eq nm l ms hs
  obtain ⟨b', hb', hiff'⟩ := ValidTala_eq nm l ms hs
  obtain rfl := bool_same hiff hiff'
  have hask : Ev (fun k => spec_l25Ask.f k m [(⟨nm, l, ms⟩ : S32)] sp) (if okMel m = true ∧ b = true then (if 1 ≤ sp ∧ sp ≤ 8 then 0 else 2) else 1) := by
    unfold spec_l25Ask.f
    refine Ev.bind (l09Ok_eq m hm) ?_
    cases hk : okMel m with
    | false =>
      simp only [Bool.false_eq_true, if_false, false_and]
      apply Ev_succ
      simp only [spec_l25Ask.j0, if_true]
      exact Ev.now _
    | true =>
      simp only [if_true, true_and]
      refine Ev.bind hb ?_
      apply Ev_succ
      cases b with
      | false => simp only [spec_l25Ask.j0, Bool.not_false, if_true, Bool.false_eq_true, if_false]; exact Ev.now _
      | true =>
        simp only [spec_l25Ask.j0, Bool.not_true, Bool.false_eq_true, if_false, if_true, l00In_eq, Option.bind_some]
        by_cases h : 1 ≤ sp ∧ sp ≤ 8
        · simp only [decide_eq_true h, if_pos h, if_true]; exact Ev.now _
        · simp only [decide_eq_false h, if_neg h, Bool.false_eq_true, if_false]; exact Ev.now _
  have hcode : Ev (fun k => impl_notationCode.f k m nm l ms sp) (if okMel m = true ∧ b = true then (if 1 ≤ sp ∧ sp ≤ 8 then 0 else 2) else 1) := by
    unfold impl_notationCode.f
    refine Ev.bind (ValidMelody_eq m hm) ?_
    cases hk : okMel m with
    | false =>
      simp only [Bool.false_eq_true, if_false, false_and]
      apply Ev_succ
      simp only [impl_notationCode.j0, if_true]
      exact Ev.now _
    | true =>
      simp only [if_true, true_and]
      refine Ev.bind hb' ?_
      apply Ev_succ
      cases b with
      | false => simp only [impl_notationCode.j0, Bool.not_false, if_true, Bool.false_eq_true, if_false]; exact Ev.now _
      | true =>
        simp only [impl_notationCode.j0, Bool.not_true, Bool.false_eq_true, if_false, if_true, within_eq, Option.bind_some]
        by_cases h : 1 ≤ sp ∧ sp ≤ 8
        · simp only [decide_eq_true h, if_pos h, if_true]; exact Ev.now _
        · simp only [decide_eq_false h, if_neg h, Bool.false_eq_true, if_false]; exact Ev.now _
  by_cases hok : okMel m = true ∧ b = true
  · rw [if_pos hok] at hask hcode
    by_cases hsp : 1 ≤ sp ∧ sp ≤ 8
    · rw [if_pos hsp] at hask hcode
      have ht := hiff.1 hok.2
      have g : Good l sp := ⟨ht.l1, ht.l8, all_of_rd l _ ht.secs, ht.sum, hsp.1, hsp.2⟩
      refine ⟨barsR m l sp, ?_, ?_⟩
      · unfold spec_NotateBars.f
        refine Ev.bind hask ?_
        simp only [if_true]
        exact sBars_eq m ⟨nm, l, ms⟩ sp hok.1 g
      · unfold impl_NotateBars.f
        refine Ev.bind hcode ?_
        simp only [if_true]
        exact iBars_eq m nm l ms sp hok.1 g
    · rw [if_neg hsp] at hask hcode
      refine ⟨(⟨#[]⟩, 2), ?_, ?_⟩
      · unfold spec_NotateBars.f
        refine Ev.bind hask ?_
        simp only [if_neg (show ¬ ((2 : Int) = 0) by omega)]
        exact Ev.now _
      · unfold impl_NotateBars.f
        refine Ev.bind hcode ?_
        simp only [if_neg (show ¬ ((2 : Int) = 0) by omega)]
        exact Ev.now _
  · rw [if_neg hok] at hask hcode
    refine ⟨(⟨#[]⟩, 1), ?_, ?_⟩
    · unfold spec_NotateBars.f
      refine Ev.bind hask ?_
      simp only [if_neg (show ¬ ((1 : Int) = 0) by omega)]
      exact Ev.now _
    · unfold impl_NotateBars.f
      refine Ev.bind hcode ?_
      simp only [if_neg (show ¬ ((1 : Int) = 0) by omega)]
      exact Ev.now _
theorem szInt64S_eq (l : List Int) (a : Int) (h : l.length ≤ 9223372036854775807) (a0 : 0 ≤ a) (a1 : a ≤ 1048576) : laws_szInt64S.f l a = some (if a - (l.length : Int) < 0 then -1 else a - (l.length : Int)) := by
  unfold laws_szInt64S.f
  rw [wr (show -9223372036854775808 ≤ a - (l.length : Int) by omega) (by omega)]
  split <;> rfl
theorem toTala_eq (nm : ByteArray) (l ms : List Int) (h1 : l.length ≤ 1048576) (h2 : ms.length ≤ 1048576) : Ev (fun k => laws_toTala.f k nm l ms) (nm, l, ms) := by
  unfold laws_toTala.f
  exact Ev.bind (toInt64S_eq l h1) (Ev.bind (toInt64S_eq ms h2) (Ev.now _))
theorem eqTala_eq (nm : ByteArray) (l ms : List Int) (h1 : l.length ≤ 1048576) (h2 : ms.length ≤ 1048576) : Ev (fun k => laws_eqTala.f k nm l ms nm l ms) true := by
  unfold laws_eqTala.f
  simp only [if_true]
  refine Ev.bind (eqInt64S_eq l h1) ?_
  simp only [if_true]
  refine Ev.bind (eqInt64S_eq ms h2) ?_
  simp only [if_true]
  exact Ev.now _
theorem lawW (m : List S46) (nm : ByteArray) (l ms : List Int) (sp : Int) (hm : m.length ≤ 9223372036854775807 ∧ ∀ x ∈ m, (Lit.int .i64 x.f0).wf = true ∧ (Lit.int .i64 x.f1).wf = true) (hn : nm.size ≤ 9223372036854775807) (hl : l.length ≤ 9223372036854775807 ∧ ∀ x ∈ l, (Lit.int .i64 x).wf = true) (hms : ms.length ≤ 9223372036854775807 ∧ ∀ x ∈ ms, (Lit.int .i64 x).wf = true) (_ : (Lit.int .i64 sp).wf = true) :
    ∃ n, laws_FnExactNotateBars.f n m nm l ms sp = some true := by
  have hz : Ev (fun n => laws_FnExactNotateBars.f n m nm l ms sp) true := by
    have hm' := hm.1
    have hl' := hl.1
    have hms' := hms.1
    unfold laws_FnExactNotateBars.f laws_szNoteS.f
    rw [wr (show -9223372036854775808 ≤ (1048576 : Int) - (m.length : Int) by omega) (by omega)]
    by_cases h1 : (1048576 : Int) - (m.length : Int) < 0
    · simp only [if_pos h1, Option.bind_some, show (-1 : Int) < 0 from by omega, if_true]
      exact Ev.now _
    · simp only [if_neg h1, Option.bind_some]
      have hlen : m.length ≤ 1048576 := by omega
      have hlm : (m.map cNote).length ≤ 1048576 := by rw [List.length_map]; exact hlen
      unfold laws_szTala.f
      rw [wr (show -9223372036854775808 ≤ (1048576 : Int) - (m.length : Int) - (nm.size : Int) by omega) (by omega)]
      by_cases h2 : (1048576 : Int) - (m.length : Int) - (nm.size : Int) < 0
      · simp only [if_pos h2, Option.bind_some, show (-1 : Int) < 0 from by omega, if_true]
        exact Ev.now _
      · simp only [if_neg h2, szInt64S_eq l _ hl' (show (0 : Int) ≤ (1048576 : Int) - (m.length : Int) - (nm.size : Int) by omega) (by omega), Option.bind_some]
        by_cases h3 : (1048576 : Int) - (m.length : Int) - (nm.size : Int) - (l.length : Int) < 0
        · simp only [if_pos h3, Option.bind_some, show (-1 : Int) < 0 from by omega, if_true]
          exact Ev.now _
        · simp only [if_neg h3, szInt64S_eq ms _ hms' (show (0 : Int) ≤ (1048576 : Int) - (m.length : Int) - (nm.size : Int) - (l.length : Int) by omega) (by omega), Option.bind_some]
          by_cases h4 : (1048576 : Int) - (m.length : Int) - (nm.size : Int) - (l.length : Int) - (ms.length : Int) < 0
          · simp only [if_pos h4, Option.bind_some, show (-1 : Int) < 0 from by omega, if_true]
            exact Ev.now _
          · simp only [if_neg h4, Option.bind_some]
            obtain ⟨r, hs, hi⟩ := NotateBars_same (m.map cNote) nm l ms sp hlm (by omega)
            refine Ev.bind (toNoteS_eq m hlen) ?_
            refine Ev.bind (toTala_eq nm l ms (by omega) (by omega)) ?_
            refine Ev.bind hs ?_
            refine Ev.bind (toNoteS_eq m hlen) ?_
            refine Ev.bind (toTala_eq nm l ms (by omega) (by omega)) ?_
            refine Ev.bind hi ?_
            simp only [if_true, bne_self_eq_false]
            apply Ev_succ
            simp only [laws_FnExactNotateBars.j0, Bool.false_eq_true, if_false]
            refine Ev.bind (toNoteS_eq m hlen) ?_
            refine Ev.bind (eqNoteS_eq _ hlm) ?_
            simp only [if_true]
            refine Ev.bind (toTala_eq nm l ms (by omega) (by omega)) ?_
            refine Ev.bind (eqTala_eq nm l ms (by omega) (by omega)) ?_
            simp only [if_true]
            exact Ev.now _
  exact hz.rounds
end Go.Proofs.YtjnfkomadgfggaaDoor.Pu
end
section
namespace Go.Proofs.YtjnfkomadgfggaaDoor.fnExactNotateBars
open Go.ChangeShapes Go.WideShapes Go.ChangeAt Go.RowKit Go.Proofs.YtjnfkomadgfggaaDoorY Go.Proofs.YtjnfkomadgfggaaDoorW.PrintWords Go.Proofs.YtjnfkomadgfggaaDoor.PZ
open Go.ChangeMaps (open_string shut_string)
set_option linter.unusedVariables false
theorem own : ownKnob Tryd.prog.godebug = none := by kernel_rfl
theorem laidOut : laidOutB Tryd.prog = true := by kernel_rfl
theorem op46 {w : World} : Opens Tryd.prog w 46 k46 (fun b => ((Lit.int .i64 b.f0).wf = true ∧ (Lit.int .i64 b.f1).wf = true)) := Opens.struct (P := Tryd.prog) (w := w) (f := fun x : S46 => (x.f0, x.f1)) (fun a => S46.mk a.1 a.2) (fun _ => rfl) Tryd.underlying46 (by kernel_rfl) (OpensL.cons (Opens.int (w := w) Tryd.underlying2 (by kernel_rfl)) rfl (OpensL.last (Opens.int (w := w) Tryd.underlying2 (by kernel_rfl)) rfl))
def laid : List (String × DataW Unit) := [("math/bits.deBruijn32tab", Rows.laid_math_bits_deBruijn32tab), ("math/bits.deBruijn64tab", Rows.laid_math_bits_deBruijn64tab), ("internal/strconv.uint64pow10", Rows.laid_internal_strconv_uint64pow10)]
theorem door_met (os : Os) (args : Array Value) : laidMetH Tryd.prog laid ((World.doorLaid Tryd.prog 400 os).forCall (fun _ _ => 0) ⟨#[], args, []⟩).memory :=
  laidMetH_of_parts3 (fuel := 8) (laidMet_of_run' 8 (by kernel_rfl) (by kernel_rfl)) (by kernel_rfl) (by kernel_rfl)
theorem lv_of {W : World} (h : laidMetH Tryd.prog laid W) (hs : W.ShapedOpen Tryd.prog) : Lv W :=
  ⟨tab_laid (zs := Lib.pow10Tab) (n := 20) (by rw [show (Lib.tabData .u64 Lib.pow10Tab : DataW Unit) = Rows.laid_internal_strconv_uint64pow10 by kernel_rfl]; simp [laid]) (show Tryd.prog.globalNamed "internal/strconv.uint64pow10" = some 1 by kernel_rfl) (by kernel_rfl) Tryd.underlying106 Tryd.underlying99 (by kernel_rfl) (by kernel_rfl) h (by kernel_rfl)⟩
set_option maxRecDepth 100000 in
theorem lifted (os : Os) (started : os.Started) (H : Type) (enc : TypeId × Value → H) :
    ReturnsInHanded {} Tryd.checked os 3 .any (fun w args => (Rows.fnExactNotateBarsSpec.pre enc Tryd.prog Tryd.f3 [] false w args ∧ laidMetH Tryd.prog laid w) ∧ sizedMet enc Tryd.prog Tryd.f3 (OpenSpec.ofChange Rows.fnExactNotateBarsSpec) false w args)
      (Rows.fnExactNotateBarsSpec.post enc Tryd.prog Tryd.f3 false true false false) := by
  refine handed_shaped (C := Tryd.checked) (X := fun w _ => laidMetH Tryd.prog laid w) (fun _ _ _ hh h => h.of_heap hh) own started (by kernel_rfl) Tryd.func3
    (ChangeSpec.witness_shaped (enc := enc) (C := Tryd.checked) (os := os) (X := fun w _ => laidMetH Tryd.prog laid w) false (World.doorLaid Tryd.prog 400 os) #[.slice none 0 0, .agg #[.string ⟨#[]⟩, .slice none 0 0, .slice none 0 0], .int .i64 0] 8 rfl (World.shaped_of_RefB (by kernel_rfl) (by kernel_rfl)) (by kernel_rfl) (by kernel_rfl) (by kernel_rfl) (door_met os _)) ?_
  intro W base args ds gs before hval0 hW _ hsz0 hL hSh _
  have hval : ∀ (j : Nat) t v, Tryd.f3.params[j]? = some t → args[j]? = some v → Value.okWide Tryd.prog W .any base t v := hval0
  have hW' := hW
  obtain ⟨p, q, hA0, hV, rfl, hfz, hnd⟩ := hW
  have hA : DataW.TrodAll enc Tryd.prog W 0 (fun _ => true) true Tryd.f3.params.toList args.toList ds p := hA0
  rw [Tryd.params3] at hA hval
  obtain ⟨v0, vs0, d0, ds0, p0, q0, hargs, rfl, rfl, h0, r0⟩ := trodAll_cons hA
  obtain ⟨v1, vs1, d1, ds1, p1, q1, rfl, rfl, rfl, h1, r1⟩ := trodAll_cons r0
  obtain ⟨v2, vs2, d2, ds2, p2, q2, rfl, rfl, rfl, h2, r2⟩ := trodAll_cons r1
  obtain ⟨rfl, rfl, rfl⟩ := trodAll_nil r2
  obtain rfl : args = #[v0, v1, v2] := by cases args; simp_all
  obtain ⟨rfl, rfl⟩ := trodVars_none hV
  have k0 := h0
  have lt0 : ∀ x ∈ p0, x.block < W.heap.size := by obtain ⟨m, hm⟩ := k0; exact DataW.trod_lt m _ _ _ hm
  obtain ⟨a0, len0, cap0, rfl⟩ := okWide_slice Tryd.underlying22 (hval 0 22 v0 rfl rfl)
  obtain ⟨fu0, hf0⟩ := h0
  obtain ⟨y0, ⟨A0, c0, e0, hc0, hr0⟩, w0⟩ := (Opens.slice (w := W) Tryd.underlying22 (by kernel_rfl) (op46 (w := W))).2 _ _ _ _ _ _ _ _ hf0
  simp only [Value.cells, List.cons.injEq, Value.slice.injEq, and_true] at e0
  obtain ⟨rfl, rfl, rfl⟩ := e0
  have k1 := h1
  have lt1 : ∀ x ∈ p1, x.block < W.heap.size := by obtain ⟨m, hm⟩ := k1; exact DataW.trod_lt m _ _ _ hm
  obtain ⟨cs1, rfl, _⟩ := okWide_struct Tryd.underlying25 (hval 1 25 v1 rfl rfl)
  obtain ⟨fu1, hf1⟩ := h1
  obtain ⟨cl1⟩ := cs1
  obtain ⟨x1, hK1, hw1⟩ := (Opens.struct (P := Tryd.prog) (w := W) (f := fun x => x) (fun a => a) (fun _ => rfl) Tryd.underlying25 (by kernel_rfl) (OpensL.cons (Opens.string (w := W) Tryd.underlying9 (by kernel_rfl)) rfl (OpensL.cons (Opens.slice (w := W) Tryd.underlying23 (by kernel_rfl) (Opens.int (w := W) Tryd.underlying2 (by kernel_rfl))) rfl (OpensL.last (Opens.slice (w := W) Tryd.underlying23 (by kernel_rfl) (Opens.int (w := W) Tryd.underlying2 (by kernel_rfl))) rfl)))).2 _ _ _ _ _ _ _ _ hf1
  obtain ⟨y1_0, y1_1, y1_2⟩ := x1
  obtain ⟨w1_0, w1_1, w1_2⟩ := hw1
  simp only [Value.cells] at hK1
  obtain ⟨_, _, hq1_0, rfl, ⟨_, _, hq1_1, ⟨A1_1, c1_1, rfl, hc1_1, hr1_1⟩, ⟨A1_2, c1_2, rfl, hc1_2, hr1_2⟩⟩⟩ := hK1
  subst hq1_1
  replace hq1_0 : cl1 = [.string y1_0, .slice A1_1 y1_1.length c1_1, .slice A1_2 y1_2.length c1_2] := hq1_0
  subst hq1_0
  have k2 := h2
  have lt2 : ∀ x ∈ p2, x.block < W.heap.size := by obtain ⟨m, hm⟩ := k2; exact DataW.trod_lt m _ _ _ hm
  obtain ⟨y2, rfl, rfl, rfl, w2⟩ := open_int Tryd.underlying2 (hval 2 2 v2 rfl rfl) h2
  have hLv := lv_of hL hSh
  clear hA0 hval0 hsz0
  obtain ⟨k, hk⟩ := Pu.lawW y0 y1_0 y1_1 y1_2 y2 w0 w1_0 w1_1 w1_2 w2
  refine (laws_FnExactNotateBars.calls k a0 cap0 y0 y1_0 A1_1 c1_1 y1_1 A1_2 c1_2 y1_2 y2 true W hr0 hc0 hr1_1 hc1_1 hr1_2 hc1_2 hLv hk).mono fun e W' ⟨he, bel⟩ => ?_
  subst he
  exact ⟨_, rfl, _, _, _, [], _, [], hW', trodAll_mk1 (shut_bool (show Tryd.prog.underlying 4 = some .bool by kernel_rfl) _), (trodAll_cons_mk (Below.trod laidOut (by kernel_rfl) (of_decide_eq_true (by kernel_rfl)) k0 bel lt0) (trodAll_cons_mk (Below.trod laidOut (by kernel_rfl) (of_decide_eq_true (by kernel_rfl)) k1 bel lt1) (trodAll_cons_mk (Below.trod laidOut (by kernel_rfl) (of_decide_eq_true (by kernel_rfl)) k2 bel lt2) trodAll_mk0))), rfl, bel.frame _, fun h => by cases h⟩
theorem over : Rows.fnExactNotateBarsRow.holds Tryd.pinned (OpenSpec.ofChange Rows.fnExactNotateBarsSpec) :=
  OpenClaim.holds_of_wide 3 Tryd.f3 rfl rfl rfl rfl rfl rfl rfl ⟨rfl, rfl, rfl, rfl, rfl⟩ rfl rfl rfl rfl rfl (by kernel_rfl) Tryd.func3 (by kernel_rfl)
    (of_decide_eq_true (by kernel_rfl)) (by unfold Func.isWrapper; first | (rw [if_pos (by decide +kernel)]; kernel_rfl) | (rw [if_neg (by decide +kernel)]; exact ⟨rfl, rfl⟩))
    (fun os started H enc _ => lifted os started H enc)
end Go.Proofs.YtjnfkomadgfggaaDoor.fnExactNotateBars
namespace Go.Proofs.YtjnfkomadgfggaaDoor
theorem fnExactNotateBars_row_holds : Rows.FnExactNotateBarsSaid := fnExactNotateBars.over
theorem fnExactNotateBars_card : Rows.FnExactNotateBarsCardSaid :=
  Claim7.holds_tied_plain_at .later [] [.data, .data, .data] true (true, "ff5fc85974bfc770747afbecbce3d99749206f5a8961f3c9120d88850ad18e40") false
    fnExactNotateBars_row_holds (fun _ h => by cases h) (by kernel_rfl) (fun _ h => by cases h) fnExactNotateBars_row_tie rfl ⟨rfl, rfl⟩ (by kernel_rfl) rfl
    (fun f fn hf hfn => by
      obtain rfl : f = 3 := Option.some.inj ((show Tryd.prog.funcNamed "loop.example/g01033/laws.FnExactNotateBars" = some 3 by kernel_rfl).symm.trans hf) |>.symm
      obtain rfl : fn = Tryd.f3 := (Option.some.inj (Tryd.func3.symm.trans hfn)).symm
      exact ⟨by kernel_rfl, fun j t ht => by
        rw [Tryd.params3] at ht
        have hm : t ∈ [22, 25, 2] := by simpa using Array.mem_of_getElem? ht
        have hall : ([22, 25, 2].all fun u => !Tryd.prog.wantsStandIn u) = true := by kernel_rfl
        exact (show Tryd.prog.wantsStandIn t = false by simpa using List.all_eq_true.1 hall t hm)⟩)
    (by kernel_rfl)
end Go.Proofs.YtjnfkomadgfggaaDoor
end
#print axioms Go.Proofs.YtjnfkomadgfggaaDoor.fnExactNotateBars_card
