/- What is proved: fnScripts_card, without further conditions; this text holds part 4 of 4 of its proof. -/
import Derived.ProofKit
import Derived.LaidMore
import Derived.OpenShut
import Derived.ShutString
import Derived.ChangeOld
import Derived.Below
import Derived.SizedLaws
import Derived.Stop.Joined
import Derived.Lib.LaidTab
import Derived.Deep.Slices
import Derived.Shelf.Vars
import Derived.Test.YtgklofginkafgaaGreatDoorTie
import Derived.Test.YtgklofginkafgaaGreatDoorCards
import Derived.WalkKit
import Derived.Lay
import Derived.Test.YtgklofginkafgaaGreatDoorQFnScripts2
section
namespace Go.Proofs.YtgklofginkafgaaGreatDoorY
open Go.RowKit Go.ChangeShapes Go.Proofs.YtgklofginkafgaaGreatDoorW.PrintWords
def Opens (P : Program) (w : World) (t : TypeId) {α : Type} (d : Kd α) (wf : α → Prop) : Prop :=
 P.cellsOf t = d.sz ∧ ∀ (H : Type) (enc : TypeId × Value → H) (base : Nat) (sp : Nat → Bool) (held : Bool) (fuel : Nat) (cs : List Value) (x : DataW H × List MemPlace),
  DataW.trod enc P w base sp held fuel t cs = some x → ∃ a, d.K w a cs ∧ wf a
section
variable {P : Program} {w : World}
theorem Opens.int {t : TypeId} {k : IntKind} (ht : P.underlying t = some (.int k)) (hc : P.cellsOf t = 1) : Opens P w t (Kd.int k) (fun n => (Lit.int k n).wf = true) :=
 ⟨hc, fun H enc base sp held fuel cs x h => by
  obtain ⟨n, rfl, _, hw⟩ := DataW.trod_int ht h
  exact ⟨n, rfl, hw⟩⟩
theorem Opens.bool {t : TypeId} (ht : P.underlying t = some .bool) (hc : P.cellsOf t = 1) : Opens P w t Kd.bool (fun _ => True) :=
 ⟨hc, fun H enc base sp held fuel cs x h => by
  obtain ⟨b, rfl, _⟩ := DataW.trod_bool ht h
  exact ⟨b, rfl, trivial⟩⟩
theorem Opens.string {t : TypeId} (ht : P.underlying t = some .string) (hc : P.cellsOf t = 1) : Opens P w t Kd.string (fun s => s.size ≤ 9223372036854775807) :=
 ⟨hc, fun H enc base sp held fuel cs x h => by
  obtain ⟨s, rfl, _, hs⟩ := DataW.trod_string ht h
  exact ⟨s, rfl, hs⟩⟩
theorem choose_list {α : Type} {p : Nat → α → Prop} : ∀ (n : Nat), (∀ i, i < n → ∃ a, p i a) → ∃ l : List α, l.length = n ∧ ∀ i a, l[i]? = some a → p i a
 | 0, _ => ⟨[], rfl, fun i a h => by simp at h⟩
 | n + 1, h => by
  obtain ⟨l, hl, hp⟩ := choose_list n (fun i hi => h i (by omega))
  obtain ⟨a, ha⟩ := h n (by omega)
  refine ⟨l ++ [a], by simp [hl], fun i b hb => ?_⟩
  by_cases hi : i < n
  ·rw [List.getElem?_append_left (by omega)] at hb
   exact hp i b hb
  ·rw [List.getElem?_append_right (by omega)] at hb
   have h0 : i - l.length = 0 := by
    rcases Nat.eq_zero_or_pos (i - l.length) with h | h
    ·exact h
    ·rw [List.getElem?_eq_none (by simp; omega)] at hb; cases hb
   rw [h0] at hb
   simp at hb
   subst hb
   have : i = n := by omega
   subst this
   exact ha
theorem Opens.slice {t e : TypeId} {α : Type} {d : Kd α} {wf : α → Prop} (ht : P.underlying t = some (.slice e)) (hc : P.cellsOf t = 1) (o : Opens P w e d wf) :
  Opens P w t (Kd.slice e d) (fun l => l.length ≤ 9223372036854775807 ∧ ∀ a ∈ l, wf a) :=
 ⟨hc, fun H enc base sp held fuel cs x h => by
  rcases Go.Deep.open_slice ht h with ⟨rfl, _⟩ | ⟨a, len, cap, m, n, D, Pl, rfl, _, hl, hm, hmm, _, hx⟩
  ·exact ⟨[], ⟨none, 0, rfl, Nat.le_refl _, rfl, by simp, fun h => absurd h (by simp)⟩, by simp, by simp⟩
  ·have hle : len ≤ m := by rw [hmm]; split <;> omega
   have hmx : cap ≤ 9223372036854775807 := hm
   obtain ⟨l, hlen, hp⟩ := choose_list (p := fun i y => (∃ c, c.length = d.sz ∧ d.K w y c ∧ ∀ j u, c[j]? = some u → w.cell? (a.add (i * d.sz + j)) = some u) ∧ wf y) len (fun i hi => by
    obtain ⟨cs', h1, h2⟩ := hx i (by omega)
    obtain ⟨y, hK, hw⟩ := o.2 H enc base sp held n cs' _ h2
    obtain ⟨_, hl', hcell⟩ := World.cells?_some h1
    rw [o.1] at hl' hcell
    refine ⟨y, ⟨cs', hl', hK, fun j u hu => ?_⟩, hw⟩
    have hj : j < d.sz := by
     rcases Nat.lt_or_ge j cs'.length with h | h
     ·omega
     ·rw [List.getElem?_eq_none h] at hu; cases hu
    have := hcell j hj
    rw [add_add] at this
    rw [this, hu])
   refine ⟨l, ⟨some a, cap, by rw [hlen], by omega, ⟨rfl, by omega, fun _ => ⟨a, rfl, fun j y hy => (hp j y hy).1⟩⟩⟩, by omega, fun y hy => ?_⟩
   obtain ⟨i, hi⟩ := List.mem_iff_getElem?.1 hy
   exact (hp i y hi).2⟩
def OpensL (P : Program) (w : World) (fs : List Field) (off : Nat) {α : Type} (d : Kd α) (wf : α → Prop) : Prop :=
 ∀ (H : Type) (enc : TypeId × Value → H) (base : Nat) (sp : Nat → Bool) (held : Bool) (fuel : Nat) (cs : List Value),
  (∀ f ∈ fs, ∃ x, DataW.trod enc P w base sp held fuel f.type ((cs.drop f.offset).take (P.cellsOf f.type)) = some x) → cs.length = off + d.sz → ∃ a, d.K w (a : α) (cs.drop off) ∧ wf a
theorem OpensL.cons {f : Field} {fs : List Field} {off : Nat} {α β : Type} {d : Kd α} {e : Kd β} {wf : α → Prop} {wf' : β → Prop} (o : Opens P w f.type d wf) (ho : f.offset = off) (r : OpensL P w fs (off + d.sz) e wf') :
  OpensL P w (f :: fs) off (Kd.pair d e) (fun p => wf p.1 ∧ wf' p.2) := by
 intro H enc base sp held fuel cs h hl
 have hs : (Kd.pair d e).sz = d.sz + e.sz := rfl
 obtain ⟨x, hx⟩ := h f (List.mem_cons_self ..)
 obtain ⟨b, hb, hwb⟩ := r H enc base sp held fuel cs (fun g hg => h g (List.mem_cons_of_mem _ hg)) (by omega)
 rw [o.1, ho] at hx
 obtain ⟨a, ha, hwa⟩ := o.2 _ _ _ _ _ _ _ _ hx
 refine ⟨(a, b), ⟨(cs.drop off).take d.sz, cs.drop (off + d.sz), ?_, ?_, ?_⟩, hwa, hwb⟩
 all_goals first
  | exact ha
  | exact hb
  | (rw [← List.drop_drop, List.take_append_drop])
theorem Opens.struct {t : TypeId} {fs : Array Field} {α β : Type} {d : Kd α} {wf : α → Prop} {f : β → α} (g : α → β) (hg : ∀ a, f (g a) = a) (ht : P.underlying t = some (.struct fs)) (hc : P.cellsOf t = d.sz) (o : OpensL P w fs.toList 0 d wf) :
  Opens P w t (Kd.iso d f) (fun b => wf (f b)) :=
 ⟨hc, fun H enc base sp held fuel cs x h => by
  obtain ⟨xs, n, _, _, hl, hn, hf⟩ := DataW.trod_struct ht h
  obtain ⟨a, ha, hw⟩ := o H enc base sp held n cs (fun f hm => by
   obtain ⟨i, hi⟩ := List.mem_iff_getElem?.1 hm
   have hi' : fs[i]? = some f := by rw [← hi, Array.getElem?_toList]
   have := hf i f hi'
   have hlt : i < xs.length := by
    rcases Nat.lt_or_ge i fs.size with h | h
    ·omega
    ·rw [Array.getElem?_eq_none h] at hi'; cases hi'
   rw [List.getElem?_eq_getElem hlt] at this
   exact ⟨_, this⟩) (by rw [hl, hc]; omega)
  have e : f (g a) = a := hg a
  exact ⟨g a, by show d.K w (f (g a)) cs; rw [e]; exact ha, by show wf (f (g a)); rw [e]; exact hw⟩⟩
theorem laid_mem {laid : List (String × DataW Unit)} {n : String} {d : DataW Unit} (hm : (n, d) ∈ laid) : ∀ {ps : List MemPlace}, DataW.LaidVars P w laid ps →
  ∃ g t cs fuel p, P.globalNamed n = some g ∧ (P.globals[g]?).map (·.type) = some t ∧ w.var? P n = some cs ∧ DataW.trod (fun _ => ()) P w 0 (fun _ => true) false fuel t cs.toList = some (d, p) := by
 induction laid with
 | nil => cases hm
 | cons a l ih =>
  obtain ⟨m, e⟩ := a
  rintro ps ⟨g, t, cs, fuel, p, q, h1, h2, h3, h4, h5, _⟩
  rcases List.mem_cons.1 hm with h | h
  ·cases h
   exact ⟨g, t, cs, fuel, p, h1, h2, h3, h4⟩
  ·exact ih h h5
theorem tab_laid {laid : List (String × DataW Unit)} {name : String} {k : IntKind} {zs : List Int} (hm : (name, Lib.tabData k zs) ∈ laid) {g : Nat} {t e : TypeId} {n : Nat}
  (hg : P.globalNamed name = some g) (hty : (P.globals[g]?).map (·.type) = some t) (ht : P.underlying t = some (.array n e)) (he : P.underlying e = some (.int k)) (hce : P.cellsOf e = 1) (hct : P.cellsOf t = n)
  (h : laidMetH P laid w) (hp : (laid.all fun x => x.2.handleName?.isNone) = true) : Lib.TabIs P w name k zs := by
 rw [MakeChecks.laidMetH_plain _ _ _ hp] at h
 obtain ⟨ps, hv, _⟩ := h
 obtain ⟨g', t', cs, fuel, p, hg', ht', hvar, hd⟩ := laid_mem hm hv
 obtain rfl := Option.some.inj (hg.symm.trans hg')
 obtain rfl := Option.some.inj (hty.symm.trans ht')
 unfold Lib.TabIs
 rw [hvar, ← Lib.cells_of_tab ht he hce hct hd]
theorem iface_laid {laid : List (String × DataW Unit)} {name tn : String} {dd : DataW Unit} (hm : (name, DataW.iface tn dd) ∈ laid) {g : Nat} {t : TypeId} {ms : Array (String × TypeId)}
  (hg : P.globalNamed name = some g) (hty : (P.globals[g]?).map (·.type) = some t) (ht : P.underlying t = some (.interface ms))
  (h : laidMetH P laid w) (hp : (laid.all fun x => x.2.handleName?.isNone) = true) : ∃ tp p, w.var? P name = some #[.iface tp p] := by
 rw [MakeChecks.laidMetH_plain _ _ _ hp] at h
 obtain ⟨ps, hv, _⟩ := h
 obtain ⟨g', t', cs, fuel, p, hg', ht', hvar, hd⟩ := laid_mem hm hv
 obtain rfl := Option.some.inj (hg.symm.trans hg')
 obtain rfl := Option.some.inj (hty.symm.trans ht')
 obtain ⟨l⟩ := cs
 cases fuel with
 | zero => simp [DataW.trod] at hd
 | succ n =>
  unfold DataW.trod at hd
  rw [ht] at hd
  split at hd <;> simp_all
end
theorem handed_shaped {H : Type} {enc : TypeId × Value → H} {a : Assume} {C : Checked} {os : Os} {f : FuncId} {fn : Func} {s : ChangeSpec} {conds : List PathCond} {apart fresh handsOn again : Bool} {X : World → Array Value → Prop}
  (hX : ∀ (w w' : World) (args : Array Value), w.heap = w'.heap → X w args → X w' args)
  (own : ownKnob C.prog.godebug = none) (started : os.Started) (noInit : C.prog.inits.idxOf? f = none) (hfn : C.prog.funcs[f]? = some fn)
  (witness : ∃ (w : World) (tape : Tape) (i : Input), w.os = os ∧ (w.forCall tape i).Shaped C.prog ∧ i.vars = [] ∧ Input.okWide C.prog (w.forCall tape i) .any w.heap.size f i ∧
   ((s.pre enc C.prog fn conds apart (w.forCall tape i).memory i.args ∧ X (w.forCall tape i).memory i.args) ∧ sizedMet enc C.prog fn (OpenSpec.ofChange s) apart (w.forCall tape i).memory i.args) ∧ a.holds C.prog (lone (Frame.enter C.prog f i.args .normal) [] (w.forCall tape i)))
  (contract : ∀ (W : World) (base : Nat) (args : Array Value) (ds gs : List (DataW H)) (before : List MemPlace),
   (∀ (j : Nat) t v, fn.params[j]? = some t → args[j]? = some v → Value.okWide C.prog W .any base t v) →
   DataW.Whole enc C.prog fn.params.toList s.vars apart W args.toList ds gs before →
   conds.all (PathCond.test C.prog ⟨fn.params.toList, ds, s.plain.varTypes C.prog, gs⟩) = true →
   (DataW.weightsEach C.prog (fn.params.toList ++ s.plain.varTypes C.prog) (ds ++ gs)).all (· ≤ reachBytes) = true → X W args → W.ShapedOpen C.prog →
   a.holds C.prog (lone (Frame.enter C.prog f args .normal) [] W) →
   Calls C.prog f args W fun e W' => ∃ v, e = .returned v ∧ s.post enc C.prog fn apart fresh handsOn again W args v W') :
  ReturnsInHanded a C os f .any (fun w args => (s.pre enc C.prog fn conds apart w args ∧ X w args) ∧ sizedMet enc C.prog fn (OpenSpec.ofChange s) apart w args) (s.post enc C.prog fn apart fresh handsOn again) := by
 refine returnsInHanded_of_calls own started noInit witness ?_
 intro w tape i _ hsh _ hok hpre hholds
 obtain ⟨_, _, _, fn', hfn', _, _, _, _, hval⟩ := hok
 have e : fn' = fn := Option.some.inj (hfn'.symm.trans hfn)
 subst e
 obtain ⟨⟨⟨ds, gs, before, hw, hc⟩, hx⟩, hz⟩ := hpre
 have hw' := DataW.Whole.of_heap (w' := w.forCall tape i) (by rfl) hw
 refine (contract (w.forCall tape i) w.heap.size i.args ds gs before hval hw' hc (hz.weights hw) (hX _ _ _ (by rfl) hx) hsh hholds).mono fun e W' ⟨v, he, hp⟩ => ?_
 subst he
 exact ChangeSpec.post_blind hp
end Go.Proofs.YtgklofginkafgaaGreatDoorY
end
section
namespace Go.Proofs.YtgklofginkafgaaGreatDoor.Pu
set_option linter.unusedSimpArgs false
set_option linter.unusedVariables false
open Go.RowKit Go.Proofs.YtgklofginkafgaaGreatDoorW.PrintWords
theorem wr {x : Int} (h0 : -9223372036854775808 ≤ x) (h1 : x ≤ 9223372036854775807) : wrap64 x = x := by
 unfold wrap64
 omega
theorem Ev_succ {α : Type} {g : Nat → Option α} {r : α} (h : Ev (fun k => g (k + 1)) r) : Ev g r := Ev.step (fun _ => rfl) h
theorem Go_Ev_cast {α : Type} {g : Nat → Option α} {r r' : α} (h : Ev g r) (e : r = r') : Ev g r' := e ▸ h
theorem bytes_ext {a b : ByteArray} (h : a.data.toList = b.data.toList) : a = b := by
 cases a
 cases b
 simp only [ByteArray.mk.injEq]
 exact Array.toList_inj.1 h
theorem size_mk (l : List UInt8) : (⟨l.toArray⟩ : ByteArray).size = l.length := by simp [ByteArray.size]
theorem app_mk (a b : List UInt8) : (⟨a.toArray⟩ : ByteArray) ++ ⟨b.toArray⟩ = ⟨(a ++ b).toArray⟩ := by
 apply bytes_ext
 simp
theorem toList_data (s : ByteArray) : s.toList = s.data.toList := ByteArray.toList_eq s
end Go.Proofs.YtgklofginkafgaaGreatDoor.Pu
end
section
namespace Go.Proofs.YtgklofginkafgaaGreatDoor.Pu
set_option linter.unusedSimpArgs false
set_option linter.unusedVariables false
open Go.RowKit Go.Proofs.YtgklofginkafgaaGreatDoorW.PrintWords Go.Proofs.YtgklofginkafgaaGreatDoor.PS
theorem within_eq (a b c : Int) : impl_within.f a b c = some (decide (b ≤ a ∧ a ≤ c)) := by
 unfold impl_within.f
 by_cases h : a ≥ b
 ·rw [if_pos h]
  simp only [ge_iff_le] at h
  simp [h]
 ·rw [if_neg h]
  simp only [ge_iff_le] at h
  simp [h]
end Go.Proofs.YtgklofginkafgaaGreatDoor.Pu
end
section
namespace Go.Proofs.YtgklofginkafgaaGreatDoor.Pu
set_option linter.unusedSimpArgs false
set_option linter.unusedVariables false
open Go.RowKit Go.Proofs.YtgklofginkafgaaGreatDoorW.PrintWords Go.Proofs.YtgklofginkafgaaGreatDoor.PS
theorem join_tail (sep : List UInt8) (a : List UInt8) (r : List (List UInt8)) : Lib.join (a :: r) sep = a ++ r.flatMap fun x => sep ++ x := by
 unfold Lib.join
 induction r generalizing a with
 | nil => simp [List.intercalate]
 | cons b r ih =>
  have h := ih b
  simp only [List.intercalate, List.intersperse_cons_cons, List.flatten_cons] at h ⊢
  rw [h]
  simp
end Go.Proofs.YtgklofginkafgaaGreatDoor.Pu
end
section
namespace Go.Proofs.YtgklofginkafgaaGreatDoor.Pu
set_option linter.unusedSimpArgs false
set_option linter.unusedVariables false
open Go.RowKit Go.Proofs.YtgklofginkafgaaGreatDoorW.PrintWords Go.Proofs.YtgklofginkafgaaGreatDoor.PS
theorem octB_size (o : Int) (h : o = -1 ∨ o = 0 ∨ o = 1) : (octB o).size ≤ 1 := by rcases h with rfl | rfl | rfl <;> decide
theorem markB_size (o : Int) (h : o = -1 ∨ o = 0 ∨ o = 1) : (markB o).size ≤ 1 := by rcases h with rfl | rfl | rfl <;> decide
theorem pitchB_size (s k p : Int) (k0 : 0 ≤ k) (k1 : k ≤ 11) (p0 : -12 ≤ p) (p1 : p ≤ 23) : (pitchB s k p).size ≤ 200 := by
 have a := (letterB_cell ((p + k) % 12) (by omega) (by omega)).1
 have b := decB_size ((p + k) / 12 + 4) (by omega) (by omega)
 have c := (numberB_cell (p % 12) (by omega) (by omega)).1
 have d := decB_size (p + k + 60) (by omega) (by omega)
 have e := toneB_size (p % 12) (by omega) (by omega)
 have f := octB_size (p / 12) (by omega)
 have g := markB_size (p / 12) (by omega)
 unfold pitchB
 split
 ·rw [ByteArray.size_append]; omega
 ·split
  ·rw [ByteArray.size_append]; omega
  ·split
   ·omega
   ·rw [ByteArray.size_append]; omega
def pT (s k p : Int) : List UInt8 := (pitchB s k p).data.toList
theorem pT_mk (s k p : Int) : pitchB s k p = ⟨(pT s k p).toArray⟩ := by
 apply bytes_ext
 simp [pT]
theorem pT_length (s k p : Int) (k0 : 0 ≤ k) (k1 : k ≤ 11) (p0 : -12 ≤ p) (p1 : p ≤ 23) : (pT s k p).length ≤ 200 := by
 have := pitchB_size s k p k0 k1 p0 p1
 rw [pT_mk, size_mk] at this
 exact this
def keyOk (s k : Int) : Bool := decide (1 ≤ s ∧ s ≤ 4) && decide (0 ≤ k ∧ k ≤ 11)
theorem keyOk_wf {s k : Int} (h : keyOk s k = true) : 1 ≤ s ∧ s ≤ 4 ∧ 0 ≤ k ∧ k ≤ 11 := by
 simp only [keyOk, Bool.and_eq_true, decide_eq_true_eq] at h
 exact ⟨h.1.1, h.1.2, h.2.1, h.2.2⟩
theorem keyOk_eq (s k : Int) : impl_keyOk.f s k = some (keyOk s k) := by
 unfold impl_keyOk.f keyOk
 simp only [within_eq, Option.bind_some]
 by_cases h : 1 ≤ s ∧ s ≤ 4
 ·simp only [decide_eq_true h, if_true, Bool.true_and]
 ·simp only [decide_eq_false h, Bool.false_eq_true, if_false, Bool.false_and]
theorem pitchIn_eq (s k p : Int) (h : keyOk s k = true) (p0 : -12 ≤ p) (p1 : p ≤ 23) : impl_pitchIn.f s k p = some ⟨(pT s k p).toArray⟩ := by
 obtain ⟨a, b, c, d⟩ := keyOk_wf h
 unfold impl_pitchIn.f
 rw [if_pos ⟨c, d, p0, p1⟩, pT_mk]
end Go.Proofs.YtgklofginkafgaaGreatDoor.Pu
end
section
namespace Go.Proofs.YtgklofginkafgaaGreatDoor.Pu
set_option linter.unusedSimpArgs false
set_option linter.unusedVariables false
open Go.RowKit Go.Proofs.YtgklofginkafgaaGreatDoorW.PrintWords Go.Proofs.YtgklofginkafgaaGreatDoor.PS
theorem decDigits_lt (j : Nat) : ∀ u, u < 10 ^ (j + 1) → (Lib.decDigits u).length ≤ j + 1 := by
 induction j with
 | zero =>
  intro u hu
  rw [Lib.decDigits, dif_pos (by simpa using hu)]
  simp
 | succ j ih =>
  intro u hu
  rw [Lib.decDigits]
  by_cases h : u < 10
  ·rw [dif_pos h]
   simp
  ·rw [dif_neg h, List.length_append]
   have := ih (u / 10) (by rw [Nat.pow_succ] at hu; omega)
   simp only [List.length_singleton]
   omega
theorem itoa_length (n : Int) (h1 : -9223372036854775808 ≤ n) (h2 : n ≤ 9223372036854775807) : (Lib.itoa n).length ≤ 20 := by
 unfold Lib.itoa
 by_cases hn : n < 0
 ·rw [if_pos hn, List.length_cons]
  have := decDigits_lt 18 n.natAbs (by omega)
  omega
 ·rw [if_neg hn]
  have := decDigits_lt 18 n.toNat (by omega)
  omega
theorem Decimal_eq (n : Int) (h1 : -9223372036854775808 ≤ n) (h2 : n ≤ 9223372036854775807) : impl_Decimal.f n = some ⟨(Lib.itoa n).toArray⟩ := by
 unfold impl_Decimal.f
 rw [if_pos ⟨h1, h2⟩]
end Go.Proofs.YtgklofginkafgaaGreatDoor.Pu
end
section
namespace Go.Proofs.YtgklofginkafgaaGreatDoor.Pu
set_option linter.unusedSimpArgs false
set_option linter.unusedVariables false
open Go.RowKit Go.Proofs.YtgklofginkafgaaGreatDoorW.PrintWords Go.Proofs.YtgklofginkafgaaGreatDoor.PS
def isD (c : UInt8) : Bool := decide (48 ≤ c.toNat ∧ c.toNat ≤ 57)
theorem ofNat_digit (n : Nat) (h : n < 10) : (UInt8.ofNat (48 + n)).toNat = 48 + n := by
 rw [UInt8.toNat_ofNat']
 omega
theorem dec_digits (u : Nat) : ∀ c ∈ Lib.decDigits u, 48 ≤ c.toNat ∧ c.toNat ≤ 57 := by
 induction u using Nat.strongRecOn with
 | _ u ih =>
  intro c hc
  rw [Lib.decDigits] at hc
  by_cases h : u < 10
  ·rw [dif_pos h] at hc
   rw [List.mem_singleton.1 hc, ofNat_digit u h]
   omega
  ·rw [dif_neg h] at hc
   rcases List.mem_append.1 hc with hc | hc
   ·exact ih (u / 10) (by omega) c hc
   ·rw [List.mem_singleton.1 hc, ofNat_digit (u % 10) (by omega)]
    omega
theorem dec_ne (u : Nat) : Lib.decDigits u ≠ [] := by
 rw [Lib.decDigits]
 by_cases h : u < 10
 ·rw [dif_pos h]
  simp
 ·rw [dif_neg h]
  simp
theorem parseM_dec (M : Nat) (hM : 1000000000000000000 ≤ M) (u : Nat) : u < 1000000000000000000 → ∀ r, Lib.parseUintM M 0 (Lib.decDigits u ++ r) = Lib.parseUintM M u r := by
 induction u using Nat.strongRecOn with
 | _ u ih =>
  intro hu r
  rw [Lib.decDigits]
  by_cases h : u < 10
  ·rw [dif_pos h, List.singleton_append, Lib.parseUintM, ofNat_digit u h, if_pos (by omega), if_neg (by omega), if_neg (by omega)]
   congr 1
   omega
  ·rw [dif_neg h, List.append_assoc, List.singleton_append, ih (u / 10) (by omega) (by omega), Lib.parseUintM, ofNat_digit (u % 10) (by omega), if_pos (by omega), if_neg (by omega), if_neg (by omega)]
   congr 1
   omega
theorem parseIntB_dec (u : Nat) (hu : u < 1000000000000000000) : Lib.parseIntB 64 (Lib.decDigits u) = .ok (u : Int) := by
 have h := parseM_dec (2 ^ 64 - 1) (by decide) u hu []
 rw [List.append_nil] at h
 have hd := dec_digits u
 have hn := dec_ne u
 generalize Lib.decDigits u = l at h hd hn
 cases l with
 | nil => exact absurd rfl hn
 | cons c r =>
  have hc := hd c (by simp)
  have h1 : ¬ (c.toNat = 43 ∨ c.toNat = 45) := by omega
  have h2 : ¬ (c.toNat = 45) := by omega
  have e : Lib.parseUintB 64 (c :: r) = .ok u := by
   unfold Lib.parseUintB
   rw [if_neg hn, h]
   rfl
  unfold Lib.parseIntB
  simp only
  rw [if_neg h1, e]
  simp only [h2, not_false_eq_true, true_and, false_and, if_false]
  rw [if_neg (by simp only [Nat.reduceSub, Nat.reducePow]; omega)]
def stepD (a : Nat) (c : UInt8) : Nat := 10 * a + (c.toNat - 48)
def valD (acc : Nat) (l : List UInt8) : Nat := l.foldl stepD acc
theorem valD_nil (acc : Nat) : valD acc [] = acc := List.foldl_nil
theorem valD_cons (acc : Nat) (c : UInt8) (r : List UInt8) : valD acc (c :: r) = valD (10 * acc + (c.toNat - 48)) r := List.foldl_cons ..
theorem valD_append (x y : List UInt8) (acc : Nat) : valD acc (x ++ y) = valD (valD acc x) y := List.foldl_append ..
theorem valD_dec (u : Nat) : valD 0 (Lib.decDigits u) = u := by
 induction u using Nat.strongRecOn with
 | _ u ih =>
  rw [Lib.decDigits]
  by_cases h : u < 10
  ·rw [dif_pos h]
   simp only [valD_cons, valD_nil, ofNat_digit u h]
   omega
  ·rw [dif_neg h, valD_append, ih (u / 10) (by omega)]
   simp only [valD_cons, valD_nil, ofNat_digit (u % 10) (by omega)]
   omega
theorem digit_back (c : UInt8) (h : 48 ≤ c.toNat) : UInt8.ofNat (48 + (c.toNat - 48)) = c := by
 rw [show 48 + (c.toNat - 48) = c.toNat by omega]
 exact UInt8.ofNat_toNat
theorem dec_valD (n : Nat) : ∀ l : List UInt8, l.length = n → (∀ c ∈ l, 48 ≤ c.toNat ∧ c.toNat ≤ 57) → l ≠ [] → l.head? ≠ some 48 → Lib.decDigits (valD 0 l) = l ∧ 1 ≤ valD 0 l := by
 induction n with
 | zero => intro l hl _ hn; exact absurd (List.eq_nil_of_length_eq_zero hl) hn
 | succ n ih =>
  intro l hl hd hn hh
  have e := (List.dropLast_concat_getLast hn).symm
  generalize hi : l.dropLast = init at e
  generalize l.getLast hn = c at e
  subst e
  have hc := hd c (by simp)
  cases init with
  | nil =>
   simp only [List.nil_append, List.head?_cons, ne_eq, Option.some.injEq] at hh
   have h1 : c.toNat ≠ 48 := fun e => hh (by rw [← UInt8.toNat_inj]; exact e)
   simp only [List.nil_append, valD_cons, valD_nil]
   refine ⟨?_, by omega⟩
   rw [Lib.decDigits, dif_pos (by omega), Nat.mul_zero, Nat.zero_add, digit_back c hc.1]
  | cons a t =>
   obtain ⟨h1, h2⟩ := ih (a :: t) (by simpa using hl) (fun x hx => hd x (by simp only [List.mem_append]; exact .inl hx)) (by simp) (by simpa using hh)
   rw [valD_append]
   simp only [valD_cons, valD_nil]
   refine ⟨?_, by simp only [valD_cons, valD_nil] at h2; omega⟩
   simp only [valD_cons, valD_nil] at h1 h2
   rw [Lib.decDigits, dif_neg (by omega)]
   rw [show (10 * valD (10 * 0 + (a.toNat - 48)) t + (c.toNat - 48)) / 10 = valD (10 * 0 + (a.toNat - 48)) t by omega, show (10 * valD (10 * 0 + (a.toNat - 48)) t + (c.toNat - 48)) % 10 = c.toNat - 48 by omega, h1, digit_back c hc.1]
theorem dec_head (u : Nat) : 1 ≤ u → (Lib.decDigits u).head? ≠ some 48 := by
 induction u using Nat.strongRecOn with
 | _ u ih =>
  intro hu
  rw [Lib.decDigits]
  by_cases h : u < 10
  ·rw [dif_pos h]
   simp only [List.head?_cons, ne_eq, Option.some.injEq]
   intro e
   have := congrArg UInt8.toNat e
   rw [ofNat_digit u h] at this
   have h48 : (48 : UInt8).toNat = 48 := rfl
   omega
  ·rw [dif_neg h]
   have h1 := ih (u / 10) (by omega) (by omega)
   have h2 := dec_ne (u / 10)
   cases hl : Lib.decDigits (u / 10) with
   | nil => exact absurd hl h2
   | cons a t =>
    rw [hl] at h1
    simpa using h1
theorem itoa_nat (n : Int) (h : 0 ≤ n) : Lib.itoa n = Lib.decDigits n.toNat := by
 unfold Lib.itoa
 rw [if_neg (by omega)]
def numR : List UInt8 → Int × Bool
 | [] => (0, false)
 | c :: r =>
  if c.toNat = 45 then (if r = [] ∨ 18 < r.length ∨ r.head? = some 48 then (0, false) else if r.all isD = true then (-(valD 0 r : Int), true) else (0, false))
  else (if 18 < r.length + 1 ∨ (c = 48 ∧ r ≠ []) then (0, false) else if (c :: r).all isD = true then ((valD 0 (c :: r) : Int), true) else (0, false))
theorem all_isD {l : List UInt8} (h : l.all isD = true) : ∀ c ∈ l, 48 ≤ c.toNat ∧ c.toNat ≤ 57 := fun c hc => of_decide_eq_true (List.all_eq_true.1 h c hc)
theorem isD_all {l : List UInt8} (h : ∀ c ∈ l, 48 ≤ c.toNat ∧ c.toNat ≤ 57) : l.all isD = true := List.all_eq_true.2 fun c hc => decide_eq_true (h c hc)
theorem numR_true (l : List UInt8) (n : Int) (h : numR l = (n, true)) (h0 : 0 ≤ n) : l = Lib.itoa n := by
 cases l with
 | nil => simp [numR] at h
 | cons c r =>
  simp only [numR] at h
  by_cases hc : c.toNat = 45
  ·rw [if_pos hc] at h
   split at h
   ·simp at h
   ·rename_i hn
    split at h
    ·rename_i ha
     injection h with h1 _
     have h2 := (dec_valD r.length r rfl (all_isD ha) (fun e => hn (.inl e)) (fun e => hn (.inr (.inr e)))).2
     omega
    ·simp at h
  ·rw [if_neg hc] at h
   split at h
   ·simp at h
   ·rename_i hn
    split at h
    ·rename_i ha
     injection h with h1 _
     rw [← h1, itoa_nat _ (by omega), Int.toNat_natCast]
     by_cases h48 : c = 48
     ·have hr : r = [] := Classical.byContradiction fun e => hn (.inr ⟨h48, e⟩)
      subst hr
      subst h48
      simp only [valD_cons, valD_nil]
      rw [Lib.decDigits, dif_pos (by decide)]
      rfl
     ·exact (dec_valD (c :: r).length (c :: r) rfl (all_isD ha) (by simp) (by simpa using h48)).1.symm
    ·simp at h
theorem numR_itoa (n : Int) (h0 : 0 ≤ n) (h1 : n ≤ 100000000) : numR (Lib.itoa n) = (n, true) := by
 have hv := valD_dec n.toNat
 have hd := dec_digits n.toNat
 have hn := dec_ne n.toNat
 have hl := decDigits_lt 9 n.toNat (by omega)
 have hh : Lib.decDigits n.toNat = [48] ∨ (Lib.decDigits n.toNat).head? ≠ some 48 := by
  by_cases hz : n.toNat = 0
  ·left
   rw [hz, Lib.decDigits, dif_pos (by decide)]
   rfl
  ·exact .inr (dec_head _ (by omega))
 rw [itoa_nat n h0]
 generalize Lib.decDigits n.toNat = l at hv hd hn hl hh
 cases l with
 | nil => exact absurd rfl hn
 | cons c r =>
  have hc := hd c (by simp)
  simp only [numR]
  rw [if_neg (by omega), if_neg, if_pos (isD_all hd), hv, Int.toNat_of_nonneg h0]
  rintro (h | ⟨h, h2⟩)
  ·simp only [List.length_cons] at hl
   omega
  ·rcases hh with e | e
   ·injection e with _ e2
    exact h2 e2
   ·exact e (by rw [h]; rfl)
end Go.Proofs.YtgklofginkafgaaGreatDoor.Pu
end
section
namespace Go.Proofs.YtgklofginkafgaaGreatDoor.Pu
set_option linter.unusedSimpArgs false
set_option linter.unusedVariables false
open Go.RowKit Go.Proofs.YtgklofginkafgaaGreatDoorW.PrintWords Go.Proofs.YtgklofginkafgaaGreatDoor.PS
theorem inj_letters : ∀ i : Nat, i < 47 → ∀ j : Nat, j < 47 → (letterB (((i : Int) - 12) % 12)).data.toList ++ [UInt8.ofNat (48 + (((i : Int) - 12) / 12 + 4).toNat)] = (letterB (((j : Int) - 12) % 12)).data.toList ++ [UInt8.ofNat (48 + (((j : Int) - 12) / 12 + 4).toNat)] → i = j := by decide +kernel
theorem inj_numbers : ∀ i : Nat, i < 36 → ∀ j : Nat, j < 36 → (markB (((i : Int) - 12) / 12)).data.toList ++ (numberB (((i : Int) - 12) % 12)).data.toList = (markB (((j : Int) - 12) / 12)).data.toList ++ (numberB (((j : Int) - 12) % 12)).data.toList → i = j := by decide +kernel
theorem inj_tones : ∀ i : Nat, i < 36 → ∀ j : Nat, j < 36 → (toneB (((i : Int) - 12) % 12)).data.toList ++ (octB (((i : Int) - 12) / 12)).data.toList = (toneB (((j : Int) - 12) % 12)).data.toList ++ (octB (((j : Int) - 12) / 12)).data.toList → i = j := by decide +kernel
theorem itoa_digit (n : Int) (h0 : 0 ≤ n) (h1 : n ≤ 9) : Lib.itoa n = [UInt8.ofNat (48 + n.toNat)] := by
 rw [itoa_nat n h0, Lib.decDigits, dif_pos (by omega)]
theorem itoa_inj (a b : Int) (ha : 0 ≤ a) (hb : 0 ≤ b) (h : Lib.itoa a = Lib.itoa b) : a = b := by
 rw [itoa_nat a ha, itoa_nat b hb] at h
 have := congrArg (valD 0) h
 rw [valD_dec, valD_dec] at this
 omega
theorem decB_list (n : Int) : (decB n).data.toList = Lib.itoa n := by simp [decB]
theorem pT_inj (s k p q : Int) (hk : keyOk s k = true) (p0 : -12 ≤ p) (p1 : p ≤ 23) (q0 : -12 ≤ q) (q1 : q ≤ 23) (h : pT s k p = pT s k q) : p = q := by
 obtain ⟨s0, s1, k0, k1⟩ := keyOk_wf hk
 unfold pT pitchB at h
 by_cases h2 : s = 2
 ·rw [if_pos h2, if_pos h2] at h
  simp only [ByteArray.data_append, Array.toList_append, decB_list] at h
  rw [itoa_digit _ (by omega) (by omega), itoa_digit _ (by omega) (by omega)] at h
  obtain ⟨i, hi⟩ : ∃ i : Nat, p + k = (i : Int) - 12 := ⟨(p + k + 12).toNat, by omega⟩
  obtain ⟨j, hj⟩ : ∃ j : Nat, q + k = (j : Int) - 12 := ⟨(q + k + 12).toNat, by omega⟩
  rw [hi, hj] at h
  have := inj_letters i (by omega) j (by omega) h
  omega
 ·rw [if_neg h2, if_neg h2] at h
  by_cases h3 : s = 3
  ·rw [if_pos h3, if_pos h3] at h
   simp only [ByteArray.data_append, Array.toList_append] at h
   obtain ⟨i, rfl⟩ : ∃ i : Nat, p = (i : Int) - 12 := ⟨(p + 12).toNat, by omega⟩
   obtain ⟨j, rfl⟩ : ∃ j : Nat, q = (j : Int) - 12 := ⟨(q + 12).toNat, by omega⟩
   have := inj_numbers i (by omega) j (by omega) h
   omega
  ·rw [if_neg h3, if_neg h3] at h
   by_cases h4 : s = 4
   ·rw [if_pos h4, if_pos h4] at h
    simp only [decB_list] at h
    have := itoa_inj _ _ (by omega) (by omega) h
    omega
   ·rw [if_neg h4, if_neg h4] at h
    simp only [ByteArray.data_append, Array.toList_append] at h
    obtain ⟨i, rfl⟩ : ∃ i : Nat, p = (i : Int) - 12 := ⟨(p + 12).toNat, by omega⟩
    obtain ⟨j, rfl⟩ : ∃ j : Nat, q = (j : Int) - 12 := ⟨(q + 12).toNat, by omega⟩
    have := inj_tones i (by omega) j (by omega) h
    omega
end Go.Proofs.YtgklofginkafgaaGreatDoor.Pu
end
section
namespace Go.Proofs.YtgklofginkafgaaGreatDoor.Pu
set_option linter.unusedSimpArgs false
set_option linter.unusedVariables false
open Go.RowKit Go.Proofs.YtgklofginkafgaaGreatDoorW.PrintWords Go.Proofs.YtgklofginkafgaaGreatDoor.PS
def headOn {α : Type} (p : List α) : List (List α) → List (List α)
 | [] => [p]
 | x :: xs => (p ++ x) :: xs
def splitB (b : UInt8) : List UInt8 → List (List UInt8)
 | [] => [[]]
 | c :: r => if c = b then [] :: splitB b r else headOn [c] (splitB b r)
theorem splitB_ne (b : UInt8) (l : List UInt8) : splitB b l ≠ [] := by
 cases l with
 | nil => simp [splitB]
 | cons c r =>
  unfold splitB
  split
  ·simp
  ·unfold headOn
   split <;> simp
theorem headOn_headOn {α : Type} (p q : List α) (L : List (List α)) : headOn p (headOn q L) = headOn (p ++ q) L := by
 cases L <;> simp [headOn]
theorem headOn_nil {α : Type} {L : List (List α)} (h : L ≠ []) : headOn [] L = L := by
 cases L with
 | nil => exact absurd rfl h
 | cons x xs => simp [headOn]
theorem splitB_not (b : UInt8) (x : List UInt8) (h : b ∉ x) (r : List UInt8) : splitB b (x ++ r) = headOn x (splitB b r) := by
 induction x with
 | nil => rw [List.nil_append, headOn_nil (splitB_ne b r)]
 | cons c x ih =>
  have h1 : ¬ (c = b) := fun e => h (by rw [e]; simp)
  have h2 := ih (fun e => h (by simp [e]))
  rw [List.cons_append, splitB, if_neg h1, h2, headOn_headOn]
  rfl
theorem splitB_two (b : UInt8) (x y : List UInt8) (hx : b ∉ x) (hy : b ∉ y) : splitB b (x ++ b :: y) = [x, y] := by
 have h1 := splitB_not b y hy []
 rw [List.append_nil] at h1
 rw [splitB_not b x hx, splitB, if_pos rfl, h1]
 simp [headOn, splitB]
theorem splitB_one (b : UInt8) (l p : List UInt8) (h : splitB b l = [p]) : l = p ∧ b ∉ p := by
 induction l generalizing p with
 | nil =>
  simp only [splitB, List.cons.injEq, and_true] at h
  subst h
  exact ⟨rfl, by simp⟩
 | cons c r ih =>
  unfold splitB at h
  by_cases hc : c = b
  ·rw [if_pos hc] at h
   injection h with h1 h2
   exact absurd h2 (splitB_ne b r)
  ·rw [if_neg hc] at h
   cases hs : splitB b r with
   | nil => exact absurd hs (splitB_ne b r)
   | cons q qs =>
    rw [hs] at h
    simp only [headOn, List.cons.injEq] at h
    obtain ⟨h1, h2⟩ := h
    subst h2
    obtain ⟨e1, e2⟩ := ih q hs
    subst h1
    subst e1
    refine ⟨rfl, ?_⟩
    simp only [List.singleton_append, List.mem_cons, not_or]
    exact ⟨fun e => hc e.symm, e2⟩
theorem splitB_pair (b : UInt8) (l x y : List UInt8) (h : splitB b l = [x, y]) : l = x ++ b :: y ∧ b ∉ x ∧ b ∉ y := by
 induction l generalizing x with
 | nil => simp [splitB] at h
 | cons c r ih =>
  unfold splitB at h
  by_cases hc : c = b
  ·rw [if_pos hc] at h
   injection h with h1 h2
   obtain ⟨e1, e2⟩ := splitB_one b r y h2
   subst h1
   subst e1
   exact ⟨by rw [hc]; rfl, by simp, e2⟩
  ·rw [if_neg hc] at h
   cases hs : splitB b r with
   | nil => exact absurd hs (splitB_ne b r)
   | cons q qs =>
    rw [hs] at h
    simp only [headOn, List.cons.injEq] at h
    obtain ⟨h1, h2⟩ := h
    subst h2
    obtain ⟨e1, e2, e3⟩ := ih q hs
    subst h1
    subst e1
    refine ⟨rfl, ?_, e3⟩
    simp only [List.singleton_append, List.mem_cons, not_or]
    exact ⟨fun e => hc e.symm, e2⟩
theorem cut_byte (b : UInt8) (x y : List UInt8) (h : b ∉ x) : Lib.cut (x ++ b :: y) [b] = (x, y, true) := by
 have hi : Lib.index (x ++ b :: y) [b] = (x.length : Int) := by
  apply Lib.index_first
  ·simp
  ·simp [Lib.occAt, List.isPrefixOf]
  ·intro j hj
   unfold Lib.occAt
   rw [List.drop_append_of_le_length (by omega), List.drop_eq_getElem_cons hj]
   have hne : ¬ (b = x[j]) := fun e => h (e ▸ List.getElem_mem hj)
   show ((b == x[j]) && _) = false
   rw [beq_eq_false_iff_ne.2 hne]
   rfl
 unfold Lib.cut
 rw [hi, if_pos (by omega)]
 simp
end Go.Proofs.YtgklofginkafgaaGreatDoor.Pu
end
section
namespace Go.Proofs.YtgklofginkafgaaGreatDoor.Pu
set_option linter.unusedSimpArgs false
set_option linter.unusedVariables false
open Go.RowKit Go.Proofs.YtgklofginkafgaaGreatDoorW.PrintWords Go.Proofs.YtgklofginkafgaaGreatDoor.PS
def mkB (l : List UInt8) : ByteArray := ⟨l.toArray⟩
theorem cut_len (s sep : List UInt8) : (Lib.cut s sep).1.length ≤ s.length ∧ (Lib.cut s sep).2.1.length ≤ s.length := by
 unfold Lib.cut
 split
 ·simp only [List.length_take, List.length_drop]
  omega
 ·simp
end Go.Proofs.YtgklofginkafgaaGreatDoor.Pu
end
section
namespace Go.Proofs.YtgklofginkafgaaGreatDoor.Pu
set_option linter.unusedSimpArgs false
set_option linter.unusedVariables false
open Go.RowKit Go.Proofs.YtgklofginkafgaaGreatDoorW.PrintWords Go.Proofs.YtgklofginkafgaaGreatDoor.PS
theorem mk_toList (l : List UInt8) : (⟨l.toArray⟩ : ByteArray).toList = l := by
 rw [toList_data]
theorem readDec_itoa (n : Int) (h0 : 0 ≤ n) (h1 : n ≤ 10000) : readDecB ⟨(Lib.itoa n).toArray⟩ = (n, true) := by
 have e : (⟨(Lib.itoa n).toArray⟩ : ByteArray).data.toList = Lib.itoa n := by simp
 have hl := decDigits_lt 9 n.toNat (by omega)
 unfold readDecB
 rw [e]
 have hp := parseIntB_dec n.toNat (by omega)
 rw [itoa_nat n h0] at *
 rw [hp]
 have ht : (Lib.trimPrefix (Lib.decDigits n.toNat) [45]).length ≤ 18 := by
  unfold Lib.trimPrefix
  split
  ·rw [List.length_drop]; omega
  ·omega
 simp only
 rw [if_neg (by omega), Int.toNat_of_nonneg h0, itoa_nat n h0, if_pos rfl]
theorem readDec_nil : (readDecB ⟨#[]⟩).2 = false := by
 unfold readDecB
 rw [show Lib.parseIntB 64 (⟨#[]⟩ : ByteArray).data.toList = Lib.NumEnd.syntax from rfl]
theorem ReadDecimal_eq (l : List UInt8) (h : l.length ≤ 1000000000) : impl_ReadDecimal.f ⟨l.toArray⟩ = some (readDecB ⟨l.toArray⟩) := by
 unfold impl_ReadDecimal.f
 rw [if_pos (by rw [size_mk]; omega)]
end Go.Proofs.YtgklofginkafgaaGreatDoor.Pu
end
section
namespace Go.Proofs.YtgklofginkafgaaGreatDoor.Pu
set_option linter.unusedSimpArgs false
set_option linter.unusedVariables false
open Go.RowKit Go.Proofs.YtgklofginkafgaaGreatDoorW.PrintWords Go.Proofs.YtgklofginkafgaaGreatDoor.PS
theorem cut_none (b : UInt8) (l : List UInt8) (h : b ∉ l) : Lib.cut l [b] = (l, [], false) := by
 have hi : Lib.index l [b] = -1 := by
  apply Lib.index_none
  intro j hj
  unfold Lib.occAt
  by_cases e : j < l.length
  ·rw [List.drop_eq_getElem_cons e]
   have hne : ¬ (b = l[j]) := fun e2 => h (e2 ▸ List.getElem_mem e)
   show ((b == l[j]) && _) = false
   rw [beq_eq_false_iff_ne.2 hne]
   rfl
  ·rw [List.drop_of_length_le (by omega)]
   rfl
 unfold Lib.cut
 rw [hi, if_neg (by omega)]
theorem index_byte (b : UInt8) (x y : List UInt8) (h : b ∉ x) : Lib.index (x ++ b :: y) [b] = (x.length : Int) := by
 apply Lib.index_first
 ·simp
 ·simp [Lib.occAt, List.isPrefixOf]
 ·intro j hj
  unfold Lib.occAt
  rw [List.drop_append_of_le_length (by omega), List.drop_eq_getElem_cons hj]
  have hne : ¬ (b = x[j]) := fun e => h (e ▸ List.getElem_mem hj)
  show ((b == x[j]) && _) = false
  rw [beq_eq_false_iff_ne.2 hne]
  rfl
theorem index_no (b : UInt8) (l : List UInt8) (h : b ∉ l) : Lib.index l [b] = -1 := by
 apply Lib.index_none
 intro j hj
 unfold Lib.occAt
 by_cases e : j < l.length
 ·rw [List.drop_eq_getElem_cons e]
  have hne : ¬ (b = l[j]) := fun e2 => h (e2 ▸ List.getElem_mem e)
  show ((b == l[j]) && _) = false
  rw [beq_eq_false_iff_ne.2 hne]
  rfl
 ·rw [List.drop_of_length_le (by omega)]
  rfl
theorem splitB_self (b : UInt8) (l : List UInt8) (h : b ∉ l) : splitB b l = [l] := by
 have h1 := splitB_not b l h []
 rw [List.append_nil] at h1
 rw [h1]
 simp [splitB, headOn]
theorem splitB_first (b : UInt8) (x y : List UInt8) (h : b ∉ x) : splitB b (x ++ b :: y) = x :: splitB b y := by
 rw [splitB_not b x h, splitB, if_pos rfl]
 simp [headOn]
theorem splitK_all (b : UInt8) (k : Nat) : ∀ l : List UInt8, ((splitB b l).length ≤ k + 1 → Lib.splitK [b] 0 k l = splitB b l) ∧ (k + 1 < (splitB b l).length → (Lib.splitK [b] 0 k l).length = k + 1) := by
 induction k with
 | zero =>
  intro l
  refine ⟨fun h => ?_, fun h => rfl⟩
  by_cases hm : b ∈ l
  ·obtain ⟨x, y, rfl, hx⟩ := List.eq_append_cons_of_mem hm
   rw [splitB_first b x y hx, List.length_cons] at h
   have := splitB_ne b y
   have h2 : (splitB b y).length = 0 := by omega
   exact absurd (List.eq_nil_of_length_eq_zero h2) this
  ·rw [splitB_self b l hm]
   rfl
 | succ k ih =>
  intro l
  by_cases hm : b ∈ l
  ·obtain ⟨x, y, rfl, hx⟩ := List.eq_append_cons_of_mem hm
   have e : Lib.splitK [b] 0 (k + 1) (x ++ b :: y) = x :: Lib.splitK [b] 0 k y := by
    rw [Lib.splitK, index_byte b x y hx, if_neg (by simp)]
    simp
   rw [splitB_first b x y hx, e, List.length_cons, List.length_cons]
   refine ⟨fun h => by rw [(ih y).1 (by omega)], fun h => by rw [(ih y).2 (by omega)]⟩
  ·rw [splitB_self b l hm]
   refine ⟨fun _ => ?_, fun h => by simp at h⟩
   unfold Lib.splitK
   rw [index_no b l hm, if_pos (by decide)]
theorem splitB_count (b : UInt8) (l : List UInt8) : (splitB b l).length ≤ l.length + 1 := by
 induction l with
 | nil => simp [splitB]
 | cons c r ih =>
  unfold splitB
  split
  ·simp only [List.length_cons]; omega
  ·have := splitB_ne b r
   cases hs : splitB b r with
   | nil => exact absurd hs this
   | cons x xs =>
    rw [hs] at ih
    simp only [headOn, List.length_cons] at ih ⊢
    omega
def mapO {α : Type} (f : List UInt8 → Option α) : List (List UInt8) → Option (List α)
 | [] => some []
 | w :: r => match f w with
  | none => none
  | some x => match mapO f r with
   | none => none
   | some xs => some (x :: xs)
theorem mapO_length {α : Type} (f : List UInt8 → Option α) (W : List (List UInt8)) : ∀ m, mapO f W = some m → m.length = W.length := by
 induction W with
 | nil =>
  intro m h
  simp only [mapO, Option.some.injEq] at h
  subst h
  rfl
 | cons w r ih =>
  intro m h
  simp only [mapO] at h
  split at h
  ·cases h
  ·split at h
   ·cases h
   ·rename_i xs hxs
    injection h with h
    subst h
    rw [List.length_cons, List.length_cons, ih xs hxs]
theorem mapO_same {α : Type} (f g : List UInt8 → Option α) (p : α → Bool) (W : List (List UInt8)) (h : ∀ w ∈ W, ∀ x, f w = some x → p x = true → g w = some x) : ∀ m, mapO f W = some m → m.all p = true → mapO g W = some m := by
 induction W with
 | nil => intro m hm _; simpa [mapO] using hm
 | cons w r ih =>
  intro m hm hp
  simp only [mapO] at hm ⊢
  split at hm
  ·cases hm
  ·rename_i x hx
   split at hm
   ·cases hm
   ·rename_i xs hxs
    injection hm with hm
    subst hm
    rw [List.all_cons, Bool.and_eq_true] at hp
    rw [h w (by simp) x hx hp.1]
    simp only
    rw [ih (fun w' hw' => h w' (by simp [hw'])) xs hxs hp.2]
theorem readDec_true (b : List UInt8) (n : Int) (h : readDecB ⟨b.toArray⟩ = (n, true)) : b = Lib.itoa n := by
 have e : (⟨b.toArray⟩ : ByteArray).data.toList = b := by simp
 unfold readDecB at h
 rw [e] at h
 split at h
 ·split at h
  ·simp at h
  ·split at h
   ·rename_i h2
    injection h with h3 _
    rw [← h3]
    exact h2.symm
   ·simp at h
 ·simp at h
theorem num_same (b : List UInt8) (n : Int) (h0 : 1 ≤ n) (h1 : n ≤ 64) : numR b = (n, true) ↔ readDecB ⟨b.toArray⟩ = (n, true) := by
 constructor
 ·intro h
  rw [numR_true b n h (by omega)]
  exact readDec_itoa n (by omega) (by omega)
 ·intro h
  rw [readDec_true b n h]
  exact numR_itoa n (by omega) (by omega)
end Go.Proofs.YtgklofginkafgaaGreatDoor.Pu
end
section
namespace Go.Proofs.YtgklofginkafgaaGreatDoor.Pu
set_option linter.unusedSimpArgs false
set_option linter.unusedVariables false
open Go.RowKit Go.Proofs.YtgklofginkafgaaGreatDoorW.PrintWords Go.Proofs.YtgklofginkafgaaGreatDoor.PS
def okNote (x : S70) : Bool := decide (-12 ≤ x.f0 ∧ x.f0 ≤ 23) && decide (1 ≤ x.f1 ∧ x.f1 ≤ 64)
def okMel (l : List S70) : Bool := decide (l.length ≤ 48) && l.all okNote
theorem rdN_mem (l : List S70) (i : Nat) (h : i < l.length) : rd_T70 l (i : Int) = l[i] := by
 simp [rd_T70, List.getD_eq_getElem?_getD, List.getElem?_eq_getElem h]
theorem dropN_rd (l : List S70) (i : Nat) (h : i < l.length) : l.drop i = rd_T70 l (i : Int) :: l.drop (i + 1) := by
 rw [rdN_mem l i h]
 exact List.drop_eq_getElem_cons h
theorem ValidMelody_l0 (l : List S70) (hl : l.length ≤ 2000000) (d : Nat) : ∀ i : Nat, i + d = l.length → Ev (fun k => impl_ValidMelody.l0 k l (l.length : Int) (i : Int)) ((l.drop i).all okNote) := by
 induction d with
 | zero =>
  intro i hi
  apply Ev_succ
  simp only [impl_ValidMelody.l0, if_neg (show ¬ ((i : Int) < (l.length : Int)) by omega), List.drop_of_length_le (show l.length ≤ i by omega), List.all_nil]
  exact Ev.now _
 | succ d ih =>
  intro i hi
  have hlt : i < l.length := by omega
  have h2 := ih (i + 1) (by omega)
  rw [show ((i + 1 : Nat) : Int) = (i : Int) + 1 by omega] at h2
  apply Ev_succ
  simp only [impl_ValidMelody.l0, impl_pitchOk.f, impl_lengthOk.f, within_eq, Option.bind_some, if_pos (show (i : Int) < (l.length : Int) by omega), if_pos (show 0 ≤ (i : Int) by omega), wr (show -9223372036854775808 ≤ (i : Int) + 1 by omega) (by omega)]
  rw [dropN_rd l i hlt, List.all_cons]
  unfold okNote
  by_cases h : -12 ≤ (rd_T70 l (i : Int)).f0 ∧ (rd_T70 l (i : Int)).f0 ≤ 23
  ·by_cases h3 : 1 ≤ (rd_T70 l (i : Int)).f1 ∧ (rd_T70 l (i : Int)).f1 ≤ 64
   ·simp only [decide_eq_true h, decide_eq_true h3, if_true, Bool.true_and]
    exact h2
   ·simp only [decide_eq_true h, decide_eq_false h3, if_true, Bool.false_eq_true, if_false, Bool.false_and, Bool.and_false]
    exact Ev.now _
  ·simp only [decide_eq_false h, Bool.false_eq_true, if_false, Bool.false_and]
   exact Ev.now _
theorem ValidMelody_eqW (l : List S70) (hl : l.length ≤ 2000000) : Ev (fun k => impl_ValidMelody.f k l) (okMel l) := by
 unfold impl_ValidMelody.f okMel
 by_cases h : l.length ≤ 48
 ·simp only [if_neg (show ¬ ((l.length : Int) > 48) by omega), decide_eq_true h, Bool.true_and]
  exact ValidMelody_l0 l hl l.length 0 (by omega)
 ·simp only [if_pos (show (l.length : Int) > 48 by omega), decide_eq_false h, Bool.false_and]
  exact Ev.now _
theorem ValidMelody_eq (l : List S70) (hl : l.length ≤ 1048576) : Ev (fun k => impl_ValidMelody.f k l) (okMel l) := ValidMelody_eqW l (by omega)
theorem okMel_wf {l : List S70} (h : okMel l = true) : l.length ≤ 48 ∧ ∀ x ∈ l, -12 ≤ x.f0 ∧ x.f0 ≤ 23 ∧ 1 ≤ x.f1 ∧ x.f1 ≤ 64 := by
 simp only [okMel, okNote, Bool.and_eq_true, decide_eq_true_eq, List.all_eq_true] at h
 exact ⟨h.1, fun x hx => by have := h.2 x hx; omega⟩
end Go.Proofs.YtgklofginkafgaaGreatDoor.Pu
end
section
namespace Go.Proofs.YtgklofginkafgaaGreatDoor.Pu
set_option linter.unusedSimpArgs false
set_option linter.unusedVariables false
open Go.RowKit Go.Proofs.YtgklofginkafgaaGreatDoorW.PrintWords Go.Proofs.YtgklofginkafgaaGreatDoor.PS
def sWord (T : List UInt8 → Int × Bool) (w : List UInt8) : Option S70 :=
 match splitB 58 w with
 | [a, b] => if (T a).2 = true ∧ (numR b).2 = true then some ⟨(T a).1, (numR b).1⟩ else none
 | _ => none
def iWord (T : List UInt8 → Int × Bool) (w : List UInt8) : Option S70 :=
 if (T (Lib.cut w [58]).1).2 = true ∧ (readDecB ⟨(Lib.cut w [58]).2.1.toArray⟩).2 = true then some ⟨(T (Lib.cut w [58]).1).1, (readDecB ⟨(Lib.cut w [58]).2.1.toArray⟩).1⟩ else none
theorem word_si (T : List UInt8 → Int × Bool) (w : List UInt8) (x : S70) (h : sWord T w = some x) (hx : okNote x = true) : iWord T w = some x := by
 unfold sWord at h
 split at h
 ·rename_i a b hab
  obtain ⟨hw, ha, hb⟩ := splitB_pair 58 w a b hab
  split at h
  ·rename_i hc
   injection h with h
   subst h
   unfold okNote at hx
   rw [Bool.and_eq_true, decide_eq_true_eq, decide_eq_true_eq] at hx
   have hn := (num_same b (numR b).1 hx.2.1 hx.2.2).1 (by rw [← hc.2])
   unfold iWord
   rw [hw, cut_byte 58 a b ha]
   simp only [hn]
   rw [if_pos ⟨hc.1, trivial⟩]
  ·cases h
 ·cases h
theorem word_is (T : List UInt8 → Int × Bool) (w : List UInt8) (x : S70) (h : iWord T w = some x) (hx : okNote x = true) : sWord T w = some x := by
 unfold iWord at h
 split at h
 ·rename_i hc
  injection h with h
  subst h
  unfold okNote at hx
  rw [Bool.and_eq_true, decide_eq_true_eq, decide_eq_true_eq] at hx
  by_cases hm : (58 : UInt8) ∈ w
  ·obtain ⟨a, b, rfl, ha⟩ := List.eq_append_cons_of_mem hm
   rw [cut_byte 58 a b ha] at hc hx ⊢
   simp only at hc hx ⊢
   have hn := (num_same b (readDecB ⟨b.toArray⟩).1 hx.2.1 hx.2.2).2 (by rw [← hc.2])
   have hb : (58 : UInt8) ∉ b := by
    rw [readDec_true b (readDecB ⟨b.toArray⟩).1 (by rw [← hc.2])]
    rw [itoa_nat _ (by omega)]
    intro hm2
    have h58 : (58 : UInt8).toNat = 58 := rfl
    have := dec_digits _ _ hm2
    omega
   unfold sWord
   rw [splitB_two 58 a b ha hb]
   simp only [hn]
   rw [if_pos ⟨hc.1, trivial⟩]
  ·rw [cut_none 58 w hm] at hc
   have := readDec_nil
   exact absurd hc.2 (by simp only; rw [show (⟨([] : List UInt8).toArray⟩ : ByteArray) = ⟨#[]⟩ from rfl, this]; decide)
 ·cases h
theorem words_same (T : List UInt8 → Int × Bool) (l : List UInt8) (k : Nat) (hk : k = 48 ∨ (k = l.length ∧ l.length ≤ 48)) (m : List S70) (hm : okMel m = true) :
  mapO (sWord T) (splitB 32 l) = some m ↔ mapO (iWord T) (Lib.splitK [32] 0 k l) = some m := by
 have hms : m.length ≤ 48 ∧ m.all okNote = true := by
  unfold okMel at hm
  rw [Bool.and_eq_true, decide_eq_true_eq] at hm
  exact hm
 by_cases hc : (splitB 32 l).length ≤ k + 1
 ·rw [(splitK_all 32 k l).1 hc]
  exact ⟨fun h => mapO_same _ _ okNote _ (fun w _ x => word_si T w x) m h hms.2, fun h => mapO_same _ _ okNote _ (fun w _ x => word_is T w x) m h hms.2⟩
 ·have h1 := (splitK_all 32 k l).2 (by omega)
  have h2 := splitB_count 32 l
  constructor
  ·intro h
   have := mapO_length _ _ m h
   omega
  ·intro h
   have := mapO_length _ _ m h
   omega
end Go.Proofs.YtgklofginkafgaaGreatDoor.Pu
end
section
namespace Go.Proofs.YtgklofginkafgaaGreatDoor.Pu
set_option linter.unusedSimpArgs false
set_option linter.unusedVariables false
open Go.RowKit Go.Proofs.YtgklofginkafgaaGreatDoorW.PrintWords Go.Proofs.YtgklofginkafgaaGreatDoor.PS
def rpT (s k : Int) (w : List UInt8) : Int × Bool := leastP (fun p => (pitchB s k p).toList == w) (-12) 36
theorem readPitchIn_eq (s k : Int) (w : List UInt8) (h : keyOk s k = true) : impl_readPitchIn.f s k ⟨w.toArray⟩ = some (rpT s k w) := by
 obtain ⟨_, _, c, e⟩ := keyOk_wf h
 unfold impl_readPitchIn.f rpT
 rw [if_pos ⟨c, e⟩, mk_toList]
theorem pitchB_pT (s k p : Int) : (pitchB s k p).toList = pT s k p := by rw [toList_data]; rfl
theorem rdW (W : List (List UInt8)) (i : Nat) (h : i < W.length) : rdOf ByteArray.empty (W.map mkB) (i : Int) = ⟨W[i].toArray⟩ := by
 simp [rdOf, List.getD_eq_getElem?_getD, List.getElem?_map, List.getElem?_eq_getElem h, mkB]
theorem splitK_len (b : UInt8) (k : Nat) : ∀ l : List UInt8, ∀ w ∈ Lib.splitK [b] 0 k l, w.length ≤ l.length := by
 induction k with
 | zero => intro l w hw; simp only [Lib.splitK, List.mem_singleton] at hw; subst hw; omega
 | succ k ih =>
  intro l w hw
  by_cases hm : b ∈ l
  ·obtain ⟨x, y, rfl, hx⟩ := List.eq_append_cons_of_mem hm
   have e : Lib.splitK [b] 0 (k + 1) (x ++ b :: y) = x :: Lib.splitK [b] 0 k y := by
    rw [Lib.splitK, index_byte b x y hx, if_neg (by simp)]
    simp
   rw [e] at hw
   rw [List.length_append, List.length_cons]
   rcases List.mem_cons.1 hw with h | h
   ·subst h
    omega
   ·have := ih y w h
    omega
  ·unfold Lib.splitK at hw
   rw [index_no b l hm, if_pos (by decide), List.mem_singleton] at hw
   subst hw
   omega
theorem iRead_l0 (s k : Int) (hk : keyOk s k = true) (W : List (List UInt8)) (hW : W.length ≤ 100) (hw : ∀ w ∈ W, w.length ≤ 1048576) (d : Nat) : ∀ (i : Nat) (acc : List S70), i + d = W.length → acc.length = i →
  Ev (fun n => impl_readNotesIn.l0 n s k acc (W.map mkB) (W.length : Int) (i : Int)) (match mapO (iWord (rpT s k)) (W.drop i) with | some m => (acc ++ m, okMel (acc ++ m)) | none => ([], false)) := by
 induction d with
 | zero =>
  intro i acc hi ha
  apply Ev_succ
  simp only [impl_readNotesIn.l0, if_neg (show ¬ ((i : Int) < (W.length : Int)) by omega), List.drop_of_length_le (show W.length ≤ i by omega), mapO, List.append_nil]
  exact Ev.bind (ValidMelody_eqW acc (by omega)) (Ev.now _)
 | succ d ih =>
  intro i acc hi ha
  have hlt : i < W.length := by omega
  have hwl := hw W[i] (List.getElem_mem hlt)
  have hc := cut_len W[i] [58]
  have hcut : strings_Cut.f ⟨W[i].toArray⟩ ⟨#[58]⟩ = some (⟨(Lib.cut W[i] [58]).1.toArray⟩, ⟨(Lib.cut W[i] [58]).2.1.toArray⟩, (Lib.cut W[i] [58]).2.2) := by
   unfold strings_Cut.f
   rw [if_pos (by rw [size_mk]; omega)]
  apply Ev_succ
  simp only [impl_readNotesIn.l0, if_pos (show (i : Int) < (W.length : Int) by omega), if_pos (show (i : Int) < ((W.map mkB).length : Int) by rw [List.length_map]; omega), if_pos (show (0 : Int) ≤ (i : Int) by omega), rdW W i hlt, hcut, Option.bind_some, readPitchIn_eq s k _ hk]
  rw [ReadDecimal_eq _ (by omega), List.drop_eq_getElem_cons hlt]
  simp only [Option.bind_some, mapO, iWord]
  generalize (Lib.cut W[i] [58]).1 = a
  generalize (Lib.cut W[i] [58]).2.1 = b
  cases hp : (rpT s k a).2 with
  | false => simp only [Bool.false_eq_true, if_false, false_and]; exact Ev.now _
  | true =>
   cases hn : (readDecB ⟨b.toArray⟩).2 with
   | false => simp only [Bool.false_eq_true, if_true, if_false, and_false]; exact Ev.now _
   | true =>
    simp only [if_true, and_self, if_pos (show acc.length < 8796093022208 by omega), wr (show -9223372036854775808 ≤ (i : Int) + 1 by omega) (by omega)]
    have h2 := ih (i + 1) (acc ++ [(⟨(rpT s k a).1, (readDecB ⟨b.toArray⟩).1⟩ : S70)]) (by omega) (by rw [List.length_append, List.length_singleton]; omega)
    rw [show ((i + 1 : Nat) : Int) = (i : Int) + 1 by omega] at h2
    refine Go_Ev_cast h2 ?_
    cases mapO (iWord (rpT s k)) (W.drop (i + 1)) with
    | none => rfl
    | some m => simp only [List.append_assoc, List.singleton_append]
def readR (s k : Int) (l : List UInt8) : Option (List S70) :=
 if l = [] then some [] else match mapO (sWord (rpT s k)) (splitB 32 l) with | some m => if okMel m = true then some m else none | none => none
theorem SplitN_eq (l : List UInt8) (hl : l.length ≤ 1048576) : strings_SplitN.f ⟨l.toArray⟩ ⟨#[32]⟩ 49 = some ((Lib.splitK [32] 0 (min 49 (l.length + 1) - 1) l).map mkB) := by
 unfold strings_SplitN.f
 rw [if_pos ⟨by rw [size_mk]; omega, by decide, by omega, by omega⟩, size_mk]
 congr 1
 have h1 := Lib.splitB_data ⟨#[32]⟩ 0 (min (49 : Int).toNat (l.length + 1) - 1) ⟨l.toArray⟩
 have h7 : (Lib.splitB ⟨#[32]⟩ 0 (min (49 : Int).toNat (l.length + 1) - 1) ⟨l.toArray⟩).map (·.data.toList) = Lib.splitK [32] 0 (min 49 (l.length + 1) - 1) l := by rw [h1]; rfl
 rw [← h7, List.map_map]
 refine ((List.map_congr_left (fun x _ => ?_)).trans (List.map_id _)).symm
 show mkB x.data.toList = x
 unfold mkB
 cases x
 simp
def ReadI (o : Option (List S70)) (r : List S70 × Bool) : Prop :=
 match o with
 | some m => r = (m, true)
 | none => r.2 = false
theorem iRead_eq (s k : Int) (hk : keyOk s k = true) (l : List UInt8) (hl : l.length ≤ 1048576) : ∃ r, Ev (fun n => impl_readNotesIn.f n s k ⟨l.toArray⟩) r ∧ ReadI (readR s k l) r := by
 unfold impl_readNotesIn.f
 simp only [mk_toList]
 by_cases e : l = []
 ·refine ⟨([], true), ?_, ?_⟩
  ·simp only [if_pos e]
   exact Ev.now _
  ·unfold readR
   rw [if_pos e]
   rfl
 ·have hpos : 1 ≤ l.length := List.length_pos_iff.2 e
  have hS := SplitN_eq l hl
  have hsame := words_same (rpT s k) l (min 49 (l.length + 1) - 1) (by omega)
  have hlen : (Lib.splitK [32] 0 (min 49 (l.length + 1) - 1) l).length ≤ 100 := by
   have := splitK_all 32 (min 49 (l.length + 1) - 1) l
   by_cases hc : (splitB 32 l).length ≤ min 49 (l.length + 1) - 1 + 1
   ·rw [this.1 hc]
    omega
   ·rw [this.2 (by omega)]
    omega
  have hwl := splitK_len 32 (min 49 (l.length + 1) - 1) l
  generalize Lib.splitK [32] 0 (min 49 (l.length + 1) - 1) l = W at *
  have h := iRead_l0 s k hk W hlen (fun w hw => by have := hwl w hw; omega) _ 0 [] (Nat.zero_add _) rfl
  rw [List.drop_zero] at h
  refine ⟨(match mapO (iWord (rpT s k)) W with | some m => ([] ++ m, okMel ([] ++ m)) | none => ([], false)), ?_, ?_⟩
  ·simp only [if_neg e, hS, Option.bind_some, List.length_map]
   exact h
  ·unfold readR
   rw [if_neg e]
   cases hi : mapO (iWord (rpT s k)) W with
   | none =>
    simp only
    cases hs : mapO (sWord (rpT s k)) (splitB 32 l) with
    | none => rfl
    | some m =>
     simp only
     by_cases hm : okMel m = true
     ·have := (hsame m hm).1 hs
      rw [hi] at this
      cases this
     ·rw [if_neg hm]
      rfl
   | some m =>
    simp only [List.nil_append]
    by_cases hm : okMel m = true
    ·have := (hsame m hm).2 hi
     rw [this]
     simp only
     rw [if_pos hm]
     show (m, okMel m) = (m, true)
     rw [hm]
    ·have hf : okMel m = false := by simpa using hm
     cases hs : mapO (sWord (rpT s k)) (splitB 32 l) with
     | none => exact hf
     | some m2 =>
      simp only
      by_cases hm2 : okMel m2 = true
      ·have := (hsame m2 hm2).1 hs
       rw [hi] at this
       injection this with this
       rw [this] at hm
       exact absurd hm2 hm
      ·rw [if_neg hm2]
       exact hf
end Go.Proofs.YtgklofginkafgaaGreatDoor.Pu
end
section
namespace Go.Proofs.YtgklofginkafgaaGreatDoor.Pu
set_option linter.unusedSimpArgs false
set_option linter.unusedVariables false
open Go.RowKit Go.Proofs.YtgklofginkafgaaGreatDoorW.PrintWords Go.Proofs.YtgklofginkafgaaGreatDoor.PS
def nT (s k : Int) (x : S70) : List UInt8 := pT s k x.f0 ++ 58 :: Lib.itoa x.f1
def tailN (s k : Int) (l : List S70) : List UInt8 := l.flatMap fun n => 32 :: nT s k n
def notesT (s k : Int) : List S70 → List UInt8
 | [] => []
 | a :: r => nT s k a ++ tailN s k r
theorem join_notes (s k : Int) (l : List S70) : Lib.join (l.map (nT s k)) [32] = notesT s k l := by
 cases l with
 | nil => rfl
 | cons a r =>
  rw [List.map_cons, join_tail]
  simp [notesT, tailN, List.flatMap_map]
theorem nT_length (s k : Int) (k0 : 0 ≤ k) (k1 : k ≤ 11) (x : S70) (h : -12 ≤ x.f0 ∧ x.f0 ≤ 23 ∧ 1 ≤ x.f1 ∧ x.f1 ≤ 64) : (nT s k x).length ≤ 221 := by
 have h1 := pT_length s k x.f0 k0 k1 h.1 h.2.1
 have h2 := itoa_length x.f1 (by omega) (by omega)
 unfold nT
 rw [List.length_append, List.length_cons]
 omega
theorem tailN_length (s k : Int) (k0 : 0 ≤ k) (k1 : k ≤ 11) (l : List S70) (hw : ∀ x ∈ l, -12 ≤ x.f0 ∧ x.f0 ≤ 23 ∧ 1 ≤ x.f1 ∧ x.f1 ≤ 64) : (tailN s k l).length ≤ 222 * l.length := by
 induction l with
 | nil => simp [tailN]
 | cons a r ih =>
  have h1 := nT_length s k k0 k1 a (hw a (by simp))
  have h2 := ih (fun x hx => hw x (by simp [hx]))
  unfold tailN at h2 ⊢
  rw [List.flatMap_cons, List.length_append, List.length_cons, List.length_cons]
  omega
theorem notesT_length (s k : Int) (k0 : 0 ≤ k) (k1 : k ≤ 11) (l : List S70) (hw : ∀ x ∈ l, -12 ≤ x.f0 ∧ x.f0 ≤ 23 ∧ 1 ≤ x.f1 ∧ x.f1 ≤ 64) : (notesT s k l).length ≤ 222 * l.length := by
 cases l with
 | nil => simp [notesT]
 | cons a r =>
  have h1 := nT_length s k k0 k1 a (hw a (by simp))
  have h2 := tailN_length s k k0 k1 r (fun x hx => hw x (by simp [hx]))
  simp only [notesT, List.length_append, List.length_cons]
  omega
theorem notesIn_l0 (s k0 : Int) (hk : keyOk s k0 = true) (l : List S70) (hl : l.length ≤ 48) (hw : ∀ x ∈ l, -12 ≤ x.f0 ∧ x.f0 ≤ 23 ∧ 1 ≤ x.f1 ∧ x.f1 ≤ 64) (d : Nat) :
  ∀ i : Nat, i + d = l.length → Ev (fun k => impl_notesIn.l0 k s k0 ((l.take i).map fun n => ⟨(nT s k0 n).toArray⟩) l (l.length : Int) (i : Int)) ⟨(notesT s k0 l).toArray⟩ := by
 obtain ⟨_, _, c, e⟩ := keyOk_wf hk
 induction d with
 | zero =>
  intro i hi
  apply Ev_succ
  simp only [impl_notesIn.l0, if_neg (show ¬ ((i : Int) < (l.length : Int)) by omega), List.take_of_length_le (show l.length ≤ i by omega)]
  have e : Lib.join ((l.map fun n => (⟨(nT s k0 n).toArray⟩ : ByteArray)).map (·.data.toList)) (⟨#[32]⟩ : ByteArray).data.toList = notesT s k0 l := by
   rw [← join_notes, List.map_map]
   rfl
  have hb := notesT_length s k0 (by assumption) (by assumption) l hw
  unfold strings_Join.f
  rw [e]
  simp only [if_pos (show (notesT s k0 l).length ≤ 140737488355328 ∧ (l.map fun n => (⟨(nT s k0 n).toArray⟩ : ByteArray)).length ≤ 140737488355328 from ⟨by omega, by rw [List.length_map]; omega⟩), Option.bind_some]
  exact Ev.now _
 | succ d ih =>
  intro i hi
  have hlt : i < l.length := by omega
  have hx := hw (rd_T70 l (i : Int)) (by rw [rdN_mem l i hlt]; exact List.getElem_mem hlt)
  have hs := pT_length s k0 _ c e hx.1 hx.2.1
  have hd := itoa_length (rd_T70 l (i : Int)).f1 (by omega) (by omega)
  have e2 : (⟨(pT s k0 (rd_T70 l (i : Int)).f0).toArray⟩ : ByteArray) ++ ⟨#[58]⟩ = ⟨(pT s k0 (rd_T70 l (i : Int)).f0 ++ [58]).toArray⟩ := app_mk _ [58]
  apply Ev_succ
  simp only [impl_notesIn.l0, if_pos (show (i : Int) < (l.length : Int) by omega), if_pos (show 0 ≤ (i : Int) by omega), pitchIn_eq s k0 _ hk hx.1 hx.2.1, Decimal_eq (rd_T70 l (i : Int)).f1 (by omega) (by omega), Option.bind_some, wr (show -9223372036854775808 ≤ (i : Int) + 1 by omega) (by omega), size_mk, if_pos (show (pT s k0 (rd_T70 l (i : Int)).f0).length + 1 ≤ 9223372036854775807 by omega), e2, app_mk, List.length_append, List.length_singleton, if_pos (show (pT s k0 (rd_T70 l (i : Int)).f0).length + 1 + (Lib.itoa (rd_T70 l (i : Int)).f1).length ≤ 9223372036854775807 by omega)]
  simp only [if_pos (show ((l.take i).map fun n => (⟨(nT s k0 n).toArray⟩ : ByteArray)).length < 8796093022208 by rw [List.length_map, List.length_take]; omega)]
  have h2 := ih (i + 1) (by omega)
  rw [show ((i + 1 : Nat) : Int) = (i : Int) + 1 by omega, List.take_succ_eq_append_getElem hlt, List.map_append, ← rdN_mem l i hlt] at h2
  have e3 : nT s k0 (rd_T70 l (i : Int)) = pT s k0 (rd_T70 l (i : Int)).f0 ++ [58] ++ Lib.itoa (rd_T70 l (i : Int)).f1 := by simp [nT]
  rw [List.map_singleton, e3] at h2
  exact h2
end Go.Proofs.YtgklofginkafgaaGreatDoor.Pu
end
section
namespace Go.Proofs.YtgklofginkafgaaGreatDoor.Pu
set_option linter.unusedSimpArgs false
set_option linter.unusedVariables false
open Go.RowKit Go.Proofs.YtgklofginkafgaaGreatDoorW.PrintWords Go.Proofs.YtgklofginkafgaaGreatDoor.PS
theorem leastW_some (P : Int → Bool) (n : Nat) : ∀ lo q : Int, lo ≤ q → q < lo + n → P q = true → (∀ r, lo ≤ r → r < lo + n → P r = true → r = q) → leastP P lo n = (q, true) := by
 induction n with
 | zero => intro lo q h1 h2; omega
 | succ n ih =>
  intro lo q h1 h2 hq hu
  unfold leastP
  by_cases hp : P lo = true
  ·rw [if_pos hp, hu lo (by omega) (by omega) hp]
  ·rw [if_neg hp]
   have : q ≠ lo := fun e => hp (by rw [← e]; exact hq)
   exact ih (lo + 1) q (by omega) (by omega) hq (fun r a b => hu r (by omega) (by omega))
theorem rpT_pT (s k p : Int) (hk : keyOk s k = true) (p0 : -12 ≤ p) (p1 : p ≤ 23) : rpT s k (pT s k p) = (p, true) := by
 unfold rpT
 refine leastW_some _ 36 (-12) p p0 (by omega) ?_ ?_
 ·rw [pitchB_pT]
  exact beq_iff_eq.2 rfl
 ·intro r a b hr
  rw [pitchB_pT, beq_iff_eq] at hr
  exact pT_inj s k r p hk a (by omega) p0 p1 hr
theorem by_letters : ∀ i : Nat, i < 12 → ∀ c ∈ (letterB (i : Int)).data.toList, c ≠ 32 ∧ c ≠ 58 := by decide +kernel
theorem by_numbers : ∀ i : Nat, i < 36 → ∀ c ∈ (markB (((i : Int) - 12) / 12)).data.toList ++ (numberB (((i : Int) - 12) % 12)).data.toList, c ≠ 32 ∧ c ≠ 58 := by decide +kernel
theorem by_tones : ∀ i : Nat, i < 36 → ∀ c ∈ (toneB (((i : Int) - 12) % 12)).data.toList ++ (octB (((i : Int) - 12) / 12)).data.toList, c ≠ 32 ∧ c ≠ 58 := by decide +kernel
theorem by_itoa (n : Int) (h : 0 ≤ n) : ∀ c ∈ Lib.itoa n, c ≠ 32 ∧ c ≠ 58 := by
 intro c hc
 rw [itoa_nat n h] at hc
 have := dec_digits _ c hc
 constructor
 ·rintro rfl
  have : (32 : UInt8).toNat = 32 := rfl
  omega
 ·rintro rfl
  have : (58 : UInt8).toNat = 58 := rfl
  omega
theorem by_pT (s k p : Int) (hk : keyOk s k = true) (p0 : -12 ≤ p) (p1 : p ≤ 23) : ∀ c ∈ pT s k p, c ≠ 32 ∧ c ≠ 58 := by
 obtain ⟨s0, s1, k0, k1⟩ := keyOk_wf hk
 intro c hc
 unfold pT pitchB at hc
 by_cases h2 : s = 2
 ·rw [if_pos h2] at hc
  simp only [ByteArray.data_append, Array.toList_append, decB_list] at hc
  rcases List.mem_append.1 hc with h | h
  ·obtain ⟨i, hi⟩ : ∃ i : Nat, (p + k) % 12 = (i : Int) := ⟨((p + k) % 12).toNat, by omega⟩
   rw [hi] at h
   exact by_letters i (by omega) c h
  ·exact by_itoa _ (by omega) c h
 ·rw [if_neg h2] at hc
  by_cases h3 : s = 3
  ·rw [if_pos h3] at hc
   simp only [ByteArray.data_append, Array.toList_append] at hc
   obtain ⟨i, rfl⟩ : ∃ i : Nat, p = (i : Int) - 12 := ⟨(p + 12).toNat, by omega⟩
   exact by_numbers i (by omega) c hc
  ·rw [if_neg h3] at hc
   by_cases h4 : s = 4
   ·rw [if_pos h4] at hc
    simp only [decB_list] at hc
    exact by_itoa _ (by omega) c hc
   ·rw [if_neg h4] at hc
    simp only [ByteArray.data_append, Array.toList_append] at hc
    obtain ⟨i, rfl⟩ : ∃ i : Nat, p = (i : Int) - 12 := ⟨(p + 12).toNat, by omega⟩
    exact by_tones i (by omega) c hc
theorem nT_no (s k : Int) (hk : keyOk s k = true) (x : S70) (h : -12 ≤ x.f0 ∧ x.f0 ≤ 23 ∧ 1 ≤ x.f1 ∧ x.f1 ≤ 64) : (32 : UInt8) ∉ nT s k x := by
 intro hm
 unfold nT at hm
 rcases List.mem_append.1 hm with h1 | h1
 ·exact (by_pT s k _ hk h.1 h.2.1 _ h1).1 rfl
 ·rcases List.mem_cons.1 h1 with h2 | h2
  ·cases h2
  ·exact (by_itoa _ (by omega) _ h2).1 rfl
theorem sWord_nT (s k : Int) (hk : keyOk s k = true) (x : S70) (h : -12 ≤ x.f0 ∧ x.f0 ≤ 23 ∧ 1 ≤ x.f1 ∧ x.f1 ≤ 64) : sWord (rpT s k) (nT s k x) = some x := by
 have e : splitB 58 (nT s k x) = [pT s k x.f0, Lib.itoa x.f1] := by
  unfold nT
  exact splitB_two 58 _ _ (fun hm => (by_pT s k _ hk h.1 h.2.1 _ hm).2 rfl) (fun hm => (by_itoa _ (by omega) _ hm).2 rfl)
 unfold sWord
 rw [e]
 simp only
 rw [rpT_pT s k _ hk h.1 h.2.1, numR_itoa _ (by omega) (by omega)]
 simp
theorem split_notesT (s k : Int) (hk : keyOk s k = true) (l : List S70) : ∀ a : S70, (∀ x ∈ a :: l, -12 ≤ x.f0 ∧ x.f0 ≤ 23 ∧ 1 ≤ x.f1 ∧ x.f1 ≤ 64) → splitB 32 (notesT s k (a :: l)) = (a :: l).map (nT s k) := by
 induction l with
 | nil =>
  intro a hw
  simp only [notesT, tailN, List.flatMap_nil, List.append_nil, List.map_cons, List.map_nil]
  exact splitB_self 32 _ (nT_no s k hk a (hw a (by simp)))
 | cons b r ih =>
  intro a hw
  have e : notesT s k (a :: b :: r) = nT s k a ++ 32 :: notesT s k (b :: r) := by simp [notesT, tailN]
  rw [e, splitB_first 32 _ _ (nT_no s k hk a (hw a (by simp))), ih b (fun x hx => hw x (by simp [hx]))]
  rfl
theorem mapO_back (s k : Int) (hk : keyOk s k = true) (l : List S70) (hw : ∀ x ∈ l, -12 ≤ x.f0 ∧ x.f0 ≤ 23 ∧ 1 ≤ x.f1 ∧ x.f1 ≤ 64) : mapO (sWord (rpT s k)) (l.map (nT s k)) = some l := by
 induction l with
 | nil => rfl
 | cons a r ih =>
  simp only [List.map_cons, mapO]
  rw [sWord_nT s k hk a (hw a (by simp)), ih (fun x hx => hw x (by simp [hx]))]
theorem notesT_ne (s k : Int) (a : S70) (l : List S70) : notesT s k (a :: l) ≠ [] := by simp [notesT, nT]
theorem read_back (s k : Int) (hk : keyOk s k = true) (m : List S70) (hm : okMel m = true) : readR s k (notesT s k m) = some m := by
 obtain ⟨_, hw⟩ := okMel_wf hm
 unfold readR
 cases m with
 | nil => rfl
 | cons a l =>
  rw [if_neg (notesT_ne s k a l), split_notesT s k hk l a hw, mapO_back s k hk (a :: l) hw]
  simp only
  rw [if_pos hm]
theorem same_l0 (l : List S70) (hl : l.length ≤ 1048576) (d : Nat) : ∀ i : Nat, i + d = l.length → Ev (fun k => spec_l09Same.l0 k l l (i : Int)) true := by
 induction d with
 | zero =>
  intro i hi
  apply Ev_succ
  simp only [spec_l09Same.l0, if_neg (show ¬ ((i : Int) < (l.length : Int)) by omega)]
  exact Ev.now _
 | succ d ih =>
  intro i hi
  have h2 := ih (i + 1) (by omega)
  rw [show ((i + 1 : Nat) : Int) = (i : Int) + 1 by omega] at h2
  apply Ev_succ
  simp only [spec_l09Same.l0, if_pos (show (i : Int) < (l.length : Int) by omega), if_pos (show (0 : Int) ≤ (i : Int) by omega), beq_self_eq_true, Bool.not_true, Bool.or_self, Bool.false_eq_true, if_false, wr (show -9223372036854775808 ≤ (i : Int) + 1 by omega) (by omega)]
  exact h2
theorem same_eq (l : List S70) (hl : l.length ≤ 1048576) : Ev (fun k => spec_SameMelody.f k l l) true := by
 unfold spec_SameMelody.f spec_l09Same.f
 simp only [if_true]
 exact Ev.bind (same_l0 l hl l.length 0 (by omega)) (Ev.now _)
end Go.Proofs.YtgklofginkafgaaGreatDoor.Pu
end
section
namespace Go.Proofs.YtgklofginkafgaaGreatDoor.Pu
set_option linter.unusedSimpArgs false
set_option linter.unusedVariables false
open Go.RowKit Go.Proofs.YtgklofginkafgaaGreatDoorW.PrintWords Go.Proofs.YtgklofginkafgaaGreatDoor.PS
structure Code (c : List Int) : Prop where
 b : ∀ x ∈ c, 0 ≤ x ∧ x ≤ 255
 l : c.length ≤ 1048576
theorem u64w (y : Int) : 0 ≤ IntKind.u64.wrap y ∧ IntKind.u64.wrap y < 18446744073709551616 := by
 have : IntKind.u64.wrap y = y % 18446744073709551616 := by simp [IntKind.wrap, IntKind.bits, IntKind.signed]
 rw [this]
 omega
theorem u64s (n : Int) (h0 : 0 ≤ n) (h1 : n < 2 ^ 64) : IntKind.u64.wrap n = n := by
 have : IntKind.u64.wrap n = n % 18446744073709551616 := by simp [IntKind.wrap, IntKind.bits, IntKind.signed]
 rw [this]
 omega
theorem and255 (y : Int) : 0 ≤ Go.bits .and .u64 (IntKind.u64.wrap y / 1099511627776) 255 ∧ Go.bits .and .u64 (IntKind.u64.wrap y / 1099511627776) 255 ≤ 255 := by
 have h := u64w y
 have := bits_mask .u64 64 (by decide) u64s 8 (by decide) (IntKind.u64.wrap y / 1099511627776) (by omega) (by omega)
 have e : (2 ^ 8 - 1 : Int) = 255 := by decide
 have e2 : (2 ^ 8 : Int) = 256 := by decide
 rw [e, e2] at this
 rw [this]
 omega
theorem rd_code {c : List Int} (h : Code c) (i : Int) (h0 : 0 ≤ i) (h1 : i < (c.length : Int)) : 0 ≤ rd c i ∧ rd c i ≤ 255 := by
 have hl : i.toNat < c.length := by omega
 have : rd c i = c[i.toNat] := by simp [rd, List.getD_eq_getElem?_getD, List.getElem?_eq_getElem hl]
 rw [this]
 exact h.b _ (List.getElem_mem hl)
theorem next_ok {c : List Int} (h : Code c) (a s : Int) (h0 : 0 ≤ a) (h1 : a ≤ 1000000000) : ∃ v s', spec_l00Src_next.f c a s = some (v, a + 1, s') ∧ 0 ≤ v ∧ v ≤ 255 := by
 have hl := h.l
 unfold spec_l00Src_next.f
 rw [wr (show -9223372036854775808 ≤ a + 1 by omega) (by omega)]
 by_cases e : a < (c.length : Int)
 ·have hr := rd_code h a h0 e
  rw [if_pos e, if_pos h0, if_pos (show a + 1 ≤ (c.length : Int) by omega), wr (show -9223372036854775808 ≤ rd c a by omega) (by omega)]
  exact ⟨_, _, rfl, hr⟩
 ·rw [if_neg e, if_neg (show ¬ (a + 1 ≤ (c.length : Int)) by omega)]
  refine ⟨_, _, rfl, ?_⟩
  have := and255 (IntKind.u64.wrap (IntKind.u64.wrap (s * 6364136223846793005) + 0) + 1442695040888963407)
  rw [wr (by omega) (by omega)]
  exact this
theorem pick_ok {c : List Int} (h : Code c) (a s n : Int) (h0 : 0 ≤ a) (h1 : a ≤ 1000000) (hn : n ≤ 65536) : ∃ v a' s', spec_l00Src_pick.f c a s n = some (v, a', s') ∧ 0 ≤ v ∧ (v < n ∨ v = 0) ∧ a ≤ a' ∧ a' ≤ a + 2 := by
 unfold spec_l00Src_pick.f
 by_cases e : n ≤ 1
 ·rw [if_pos e]
  exact ⟨_, _, _, rfl, by omega, .inr rfl, by omega, by omega⟩
 ·rw [if_neg e]
  obtain ⟨v, s', hv, v0, v1⟩ := next_ok h a s h0 (by omega)
  rw [hv]
  simp only [Option.bind_some]
  by_cases e2 : n > 200
  ·obtain ⟨v2, s2, hv2, w0, w1⟩ := next_ok h (a + 1) s' (by omega) (by omega)
   rw [if_pos e2, hv2]
   simp only [Option.bind_some]
   rw [if_neg (show ¬ n = 0 by omega), wr (show -9223372036854775808 ≤ v * 256 by omega) (by omega), wr (show -9223372036854775808 ≤ v * 256 + v2 by omega) (by omega)]
   refine ⟨_, _, _, rfl, Int.tmod_nonneg _ (by omega), .inl (Int.tmod_lt_of_pos _ (by omega)), by omega, by omega⟩
  ·rw [if_neg e2, if_neg (show ¬ n = 0 by omega)]
   exact ⟨_, _, _, rfl, Int.tmod_nonneg _ (by omega), .inl (Int.tmod_lt_of_pos _ (by omega)), by omega, by omega⟩
theorem among_ok {c : List Int} (h : Code c) (a s : Int) (L : List Int) (hL : 1 ≤ L.length) (hL2 : L.length ≤ 200) (h0 : 0 ≤ a) (h1 : a ≤ 1000000) : ∃ v a' s', spec_l00Src_among.f c a s L = some (v, a', s') ∧ v ∈ L ∧ a ≤ a' ∧ a' ≤ a + 2 := by
 unfold spec_l00Src_among.f
 obtain ⟨v, a', s', hv, v0, v1, a1, a2⟩ := pick_ok h a s (L.length : Int) h0 h1 (by omega)
 rw [hv]
 simp only [Option.bind_some]
 rw [if_pos v0, if_pos (show v < (L.length : Int) by omega)]
 have hl : v.toNat < L.length := by omega
 have : rd L v = L[v.toNat] := by simp [rd, List.getD_eq_getElem?_getD, List.getElem?_eq_getElem hl]
 exact ⟨_, _, _, rfl, by rw [this]; exact List.getElem_mem hl, a1, a2⟩
theorem one_ok {c : List Int} (h : Code c) (a s n : Int) (h0 : 0 ≤ a) (h1 : a ≤ 1000000) (hn : n ≤ 65536) : ∃ v a' s', spec_l00Src_one.f c a s n = some (v, a', s') ∧ a ≤ a' ∧ a' ≤ a + 2 := by
 unfold spec_l00Src_one.f
 obtain ⟨v, a', s', hv, v0, v1, a1, a2⟩ := pick_ok h a s n h0 h1 hn
 rw [hv]
 simp only [Option.bind_some]
 exact ⟨_, _, _, rfl, a1, a2⟩
end Go.Proofs.YtgklofginkafgaaGreatDoor.Pu
end
section
namespace Go.Proofs.YtgklofginkafgaaGreatDoor.Pu
set_option linter.unusedSimpArgs false
set_option linter.unusedVariables false
open Go.RowKit Go.Proofs.YtgklofginkafgaaGreatDoorW.PrintWords Go.Proofs.YtgklofginkafgaaGreatDoor.PS
theorem smin_eq (a b : Int) : spec_l00Min.f a b = some (if a < b then a else b) := by
 unfold spec_l00Min.f
 by_cases h : a < b
 ·simp only [if_pos h]
 ·simp only [if_neg h]
theorem smax_eq (a b : Int) : spec_l00Max.f a b = some (if a > b then a else b) := by
 unfold spec_l00Max.f
 by_cases h : a > b
 ·simp only [if_pos h]
 ·simp only [if_neg h]
theorem draw_l0 {c : List Int} (hc : Code c) (d : Nat) : ∀ (x3 : List S70) (p a s : Int), -12 ≤ p → p ≤ 23 → 0 ≤ a → a + 4 * d ≤ 100000 → x3.length + d ≤ 1000 → (∀ x ∈ x3, okNote x = true) →
  ∃ m a' s', Ev (fun n => spec_l09Draw.l0 n x3 p (d : Int) c a s) (m, a', s') ∧ m.length = x3.length + d ∧ a ≤ a' ∧ a' ≤ a + 4 * d ∧ ∀ x ∈ m, okNote x = true := by
 induction d with
 | zero =>
  intro x3 p a s p0 p1 a0 a1 hl hx
  refine ⟨x3, a, s, ?_, rfl, by omega, by omega, hx⟩
  apply Ev_succ
  simp only [spec_l09Draw.l0, if_neg (show ¬ (((0 : Nat) : Int) > 0) by omega)]
  exact Ev.now _
 | succ d ih =>
  intro x3 p a s p0 p1 a0 a1 hl hx
  obtain ⟨v, b1, s1, hv, v0, v1, b2, b3⟩ := pick_ok hc a s 9 a0 (by omega) (by omega)
  obtain ⟨n, b4, s2, hn, n0, b5, b6⟩ := among_ok hc b1 s1 [1, 1, 2, 2, 3, 4, 6] (by simp) (by simp) (by omega) (by omega)
  have hn2 : 1 ≤ n ∧ n ≤ 64 := by
   simp only [List.mem_cons, List.not_mem_nil, or_false] at n0
   omega
  obtain ⟨q, hq, q0, q1⟩ : ∃ q, (if (-12 : Int) > (if 23 < p + v - 4 then 23 else p + v - 4) then -12 else (if 23 < p + v - 4 then 23 else p + v - 4)) = q ∧ -12 ≤ q ∧ q ≤ 23 := by
   refine ⟨_, rfl, ?_, ?_⟩
   ·split <;> omega
   ·split
    ·omega
    ·split <;> omega
  obtain ⟨m, a', s', hm, hm1, hm2, hm3, hm4⟩ := ih (x3 ++ [⟨q, n⟩]) q b4 s2 q0 q1 (by omega) (by omega) (by rw [List.length_append, List.length_singleton]; omega) (fun x h => by
   rcases List.mem_append.1 h with h | h
   ·exact hx x h
   ·rw [List.mem_singleton.1 h]
    unfold okNote
    simp only [Bool.and_eq_true, decide_eq_true_eq]
    exact ⟨⟨q0, q1⟩, hn2⟩)
  refine ⟨m, a', s', ?_, by rw [hm1, List.length_append, List.length_singleton]; omega, by omega, by omega, hm4⟩
  apply Ev_succ
  have hv2 : v ≤ 8 := by omega
  simp only [spec_l09Draw.l0, if_pos (show ((d + 1 : Nat) : Int) > 0 by omega), hv, Option.bind_some, wr (show -9223372036854775808 ≤ p + v by omega) (by omega), wr (show -9223372036854775808 ≤ p + v - 4 by omega) (by omega), smin_eq, smax_eq, hq, hn, if_pos (show x3.length < 8796093022208 by omega), show ((d + 1 : Nat) : Int) - 1 = (d : Int) by omega, wr (show -9223372036854775808 ≤ (d : Int) by omega) (by omega)]
  exact hm
theorem draw_ok {c : List Int} (hc : Code c) (a s : Int) (a0 : 0 ≤ a) (a1 : a ≤ 50000) : ∃ m a' s', Ev (fun n => spec_l09Draw.f n c a s) (m, a', s') ∧ m.length ≤ 9 ∧ a ≤ a' ∧ a' ≤ a + 40 ∧ ∀ x ∈ m, okNote x = true := by
 obtain ⟨v, b1, s1, hv, v0, v1, b2, b3⟩ := pick_ok hc a s 12 a0 (by omega) (by omega)
 obtain ⟨k, b4, s2, hk, k0, k1, b5, b6⟩ := pick_ok hc b1 s1 10 (by omega) (by omega) (by omega)
 obtain ⟨m, a', s', hm, hm1, hm2, hm3, hm4⟩ := draw_l0 hc k.toNat [] v b4 s2 (by omega) (by omega) (by omega) (by omega) (by simp; omega) (by simp)
 refine ⟨m, a', s', ?_, by rw [hm1]; simp; omega, by omega, by omega, hm4⟩
 unfold spec_l09Draw.f
 simp only [hv, hk, Option.bind_some]
 rwa [show ((k.toNat : Nat) : Int) = k by omega] at hm
theorem bent_l0 (c : List Int) (a s : Int) (many : Int) (d : Nat) : ∀ x3 : List S70, (x3.length : Int) + d = many → many ≤ 100 → ∃ m, Ev (fun n => spec_l09Bent.l0 n x3 many c a s) (m, a, s) ∧ (m.length : Int) = many := by
 induction d with
 | zero =>
  intro x3 h1 h2
  refine ⟨x3, ?_, by omega⟩
  apply Ev_succ
  simp only [spec_l09Bent.l0, if_neg (show ¬ ((x3.length : Int) < many) by omega)]
  exact Ev.now _
 | succ d ih =>
  intro x3 h1 h2
  obtain ⟨m, hm, hm1⟩ := ih (x3 ++ [⟨2, 1⟩]) (by rw [List.length_append, List.length_singleton]; omega) h2
  refine ⟨m, ?_, hm1⟩
  apply Ev_succ
  simp only [spec_l09Bent.l0, if_pos (show (x3.length : Int) < many by omega), if_pos (show x3.length < 8796093022208 by omega)]
  exact hm
theorem bent_ok {c : List Int} (hc : Code c) (a s : Int) (a0 : 0 ≤ a) (a1 : a ≤ 40000) : ∃ m a' s', Ev (fun n => spec_l09Bent.f n c a s) (m, a', s') ∧ m.length ≤ 100 ∧ a ≤ a' ∧ a' ≤ a + 100 := by
 obtain ⟨m, b1, s1, hm, hl, b2, b3, hx⟩ := draw_ok hc a s a0 (by omega)
 obtain ⟨v, b4, s2, hv, v0, v1, b5, b6⟩ := pick_ok hc b1 s1 20 (by omega) (by omega) (by omega)
 have hgo : ∀ r : List S70 × Int × Int, Ev (fun n => if v = 0 then ((spec_l00Src_among.f c b4 s2 (([(-13), (-12), 23, 24] : List Int))).bind fun bt314 => (if m.length < 8796093022208 then (some ((m ++ [(⟨bt314.1, 1⟩ : S70)]), bt314.2.1, bt314.2.2)) else (none))) else (if v = 1 then ((spec_l00Src_among.f c b4 s2 (([0, 1, 64, 65] : List Int))).bind fun bt323 => (if m.length < 8796093022208 then (some ((m ++ [(⟨0, bt323.1⟩ : S70)]), bt323.2.1, bt323.2.2)) else (none))) else (if v = 2 then ((spec_l00Src_pick.f c b4 s2 3).bind fun bt329 => (spec_l09Bent.l0 n m (wrap64 (47 + bt329.1)) c bt329.2.1 bt329.2.2)) else (some (m, b4, s2))))) r → Ev (fun n => spec_l09Bent.f n c a s) r := by
  intro r h
  unfold spec_l09Bent.f
  refine Ev.bind hm ?_
  simp only [hv, Option.bind_some]
  exact h
 by_cases h0 : v = 0
 ·obtain ⟨x, b7, s3, hx1, _, b8, b9⟩ := among_ok hc b4 s2 [-13, -12, 23, 24] (by simp) (by simp) (by omega) (by omega)
  refine ⟨_, _, _, hgo (m ++ [⟨x, 1⟩], b7, s3) ?_, by rw [List.length_append, List.length_singleton]; omega, by omega, by omega⟩
  simp only [if_pos h0, hx1, Option.bind_some, if_pos (show m.length < 8796093022208 by omega)]
  exact Ev.now _
 ·by_cases h1 : v = 1
  ·obtain ⟨x, b7, s3, hx1, _, b8, b9⟩ := among_ok hc b4 s2 [0, 1, 64, 65] (by simp) (by simp) (by omega) (by omega)
   refine ⟨_, _, _, hgo (m ++ [⟨0, x⟩], b7, s3) ?_, by rw [List.length_append, List.length_singleton]; omega, by omega, by omega⟩
   simp only [if_neg h0, if_pos h1, hx1, Option.bind_some, if_pos (show m.length < 8796093022208 by omega)]
   exact Ev.now _
  ·by_cases h2 : v = 2
   ·obtain ⟨x, b7, s3, hx1, x0, x1, b8, b9⟩ := pick_ok hc b4 s2 3 (by omega) (by omega) (by omega)
    obtain ⟨m2, hm2, hl2⟩ := bent_l0 c b7 s3 (47 + x) (47 + x - m.length).toNat m (by omega) (by omega)
    refine ⟨_, _, _, hgo (m2, b7, s3) ?_, by omega, by omega, by omega⟩
    simp only [if_neg h0, if_neg h1, if_pos h2, hx1, Option.bind_some, wr (show -9223372036854775808 ≤ 47 + x by omega) (by omega)]
    exact hm2
   ·refine ⟨_, _, _, hgo (m, b4, s2) ?_, by omega, by omega, by omega⟩
    simp only [if_neg h0, if_neg h1, if_neg h2]
    exact Ev.now _
end Go.Proofs.YtgklofginkafgaaGreatDoor.Pu
end
section
namespace Go.Proofs.YtgklofginkafgaaGreatDoor.Pu
set_option linter.unusedSimpArgs false
set_option linter.unusedVariables false
open Go.RowKit Go.Proofs.YtgklofginkafgaaGreatDoorW.PrintWords Go.Proofs.YtgklofginkafgaaGreatDoor.PS
theorem script_ok {c : List Int} (hc : Code c) (a s : Int) (a0 : 0 ≤ a) (a1 : a ≤ 1000) : ∃ v a' s', spec_l26DrawScript.f c a s = some (v, a', s') ∧ a ≤ a' ∧ a' ≤ a + 2 := by
 obtain ⟨v, a', s', hv, _, b1, b2⟩ := among_ok hc a s [1, 2, 3, 4, 1, 2, 3, 4, 0, 5] (by simp) (by simp) a0 (by omega)
 unfold spec_l26DrawScript.f
 rw [hv]
 exact ⟨_, _, _, rfl, b1, b2⟩
theorem key_ok {c : List Int} (hc : Code c) (a s : Int) (a0 : 0 ≤ a) (a1 : a ≤ 1000) : ∃ v a' s', spec_l26DrawKey.f c a s = some (v, a', s') ∧ a ≤ a' ∧ a' ≤ a + 2 := by
 obtain ⟨v, a', s', hv, _, b1, b2⟩ := among_ok hc a s [0, 2, 5, 7, 11, 0, 12, -1, 1] (by simp) (by simp) a0 (by omega)
 unfold spec_l26DrawKey.f
 rw [hv]
 exact ⟨_, _, _, rfl, b1, b2⟩
theorem dpitch_ok {c : List Int} (hc : Code c) (a s : Int) (a0 : 0 ≤ a) (a1 : a ≤ 1000) : ∃ v a' s', spec_l03DrawPitch.f c a s = some (v, a', s') ∧ a ≤ a' ∧ a' ≤ a + 6 := by
 obtain ⟨v, b1, s1, hv, _, _, b2, b3⟩ := pick_ok hc a s 36 a0 (by omega) (by omega)
 obtain ⟨o, b4, s2, ho, b5, b6⟩ := one_ok hc b1 s1 12 (by omega) (by omega) (by omega)
 obtain ⟨x, b7, s3, hx, _, b8, b9⟩ := among_ok hc b4 s2 [-13, -12, 23, 24] (by simp) (by simp) (by omega) (by omega)
 unfold spec_l03DrawPitch.f
 rw [hv]
 simp only [Option.bind_some, ho]
 cases o with
 | true => simp only [if_true, hx, Option.bind_some]; exact ⟨_, _, _, rfl, by omega, by omega⟩
 | false => simp only [Bool.false_eq_true, if_false]; exact ⟨_, _, _, rfl, by omega, by omega⟩
theorem drawPitchIn_ok {c : List Int} (hc : Code c) : ∃ s k p, spec_DrawPitchIn.f c = some (s, k, p) := by
 obtain ⟨s, b1, s1, hs, b2, b3⟩ := script_ok hc 0 0 (by omega) (by omega)
 obtain ⟨k, b4, s2, hk, b5, b6⟩ := key_ok hc b1 s1 (by omega) (by omega)
 obtain ⟨p, b7, s3, hp, _, _⟩ := dpitch_ok hc b4 s2 (by omega) (by omega)
 unfold spec_DrawPitchIn.f spec_l00From.f
 simp only [Option.bind_some, hs, hk, hp]
 exact ⟨_, _, _, rfl⟩
theorem drawNotesIn_ok {c : List Int} (hc : Code c) : ∃ s k m, Ev (fun n => spec_DrawNotesIn.f n c) (s, k, m) ∧ m.length ≤ 100 := by
 obtain ⟨s, b1, s1, hs, b2, b3⟩ := script_ok hc 0 0 (by omega) (by omega)
 obtain ⟨k, b4, s2, hk, b5, b6⟩ := key_ok hc b1 s1 (by omega) (by omega)
 obtain ⟨m, b7, s3, hm, hl, _, _⟩ := bent_ok hc b4 s2 (by omega) (by omega)
 refine ⟨s, k, m, ?_, hl⟩
 unfold spec_DrawNotesIn.f spec_l00From.f
 simp only [Option.bind_some, hs, hk]
 exact Ev.bind hm (Ev.now _)
theorem b10At_ok {c : List Int} (hc : Code c) : ∃ v, laws_b10At.f c 0 36 = some v ∧ 0 ≤ v ∧ v ≤ 35 := by
 unfold laws_b10At.f
 rw [if_neg (show ¬ ((36 : Int) ≤ 1) by omega)]
 by_cases e : (0 : Int) < (c.length : Int)
 ·have hr := rd_code hc 0 (by omega) e
  rw [if_pos e, if_pos (show (0 : Int) ≤ 0 by omega), if_neg (show ¬ ((36 : Int) = 0) by omega), wr (show -9223372036854775808 ≤ rd c 0 by omega) (by omega)]
  exact ⟨_, rfl, Int.tmod_nonneg _ (by omega), by have := Int.tmod_lt_of_pos (rd c 0) (show (0 : Int) < 36 by omega); omega⟩
 ·rw [if_neg e, if_neg (show ¬ ((36 : Int) = 0) by omega)]
  exact ⟨_, rfl, by decide +kernel, by decide +kernel⟩
theorem ipitchOk_eq (p : Int) : impl_pitchOk.f p = some (decide (-12 ≤ p ∧ p ≤ 23)) := by
 unfold impl_pitchOk.f
 simp only [within_eq, Option.bind_some]
theorem named_back (s : Int) (s0 : 1 ≤ s) (s1 : s ≤ 4) : impl_ScriptNamed.f (scriptB s) = some (s, true) := by
 have h : ∀ i : Nat, i < 5 → 1 ≤ i → leastP (fun p => (scriptB p).data.toList == (scriptB (i : Int)).data.toList) 1 4 = ((i : Int), true) := by decide +kernel
 have h2 := h s.toNat (by omega) (by omega)
 rw [show ((s.toNat : Nat) : Int) = s by omega] at h2
 unfold impl_ScriptNamed.f
 simp only [toList_data]
 rw [h2]
theorem nil_list : ((⟨#[]⟩ : ByteArray).toList == ([] : List UInt8)) = true := by
 rw [toList_data]
 rfl
theorem back_part {c2 : List Int} (hc2 : Code c2) : Ev (fun n => laws_FnScripts.j1 n c2) true := by
 obtain ⟨s, k, m, hd, hl⟩ := drawNotesIn_ok hc2
 apply Ev_succ
 simp only [laws_FnScripts.j1]
 refine Ev.bind hd ?_
 have hn : Ev (fun n => impl_NotesIn.f n s k m) (if keyOk s k = true then (if okMel m = true then (⟨(notesT s k m).toArray⟩, 0) else (⟨#[]⟩, 1)) else (⟨#[]⟩, 2)) := by
  unfold impl_NotesIn.f
  simp only [keyOk_eq, Option.bind_some]
  cases hk : keyOk s k with
  | false => simp only [Bool.false_eq_true, if_false]; exact Ev.now _
  | true =>
   simp only [if_true]
   refine Ev.bind (ValidMelody_eq m (by omega)) ?_
   cases hm : okMel m with
   | false => simp only [Bool.false_eq_true, if_false]; exact Ev.now _
   | true =>
    obtain ⟨h1, h2⟩ := okMel_wf hm
    have hn : Ev (fun n => impl_notesIn.f n s k m) ⟨(notesT s k m).toArray⟩ := notesIn_l0 s k hk m h1 h2 m.length 0 (by omega)
    simp only [if_true]
    exact Ev.bind hn (Ev.now _)
 refine Ev.bind hn ?_
 cases hk : keyOk s k with
 | false =>
  simp only [Bool.false_eq_true, if_false, if_neg (show ¬ ((2 : Int) = 0) by omega), nil_list]
  exact Ev.now true
 | true =>
  cases hm : okMel m with
  | false =>
   simp only [Bool.false_eq_true, if_true, if_false, if_neg (show ¬ ((1 : Int) = 0) by omega), nil_list]
   exact Ev.now true
  | true =>
   obtain ⟨h1, h2⟩ := okMel_wf hm
   obtain ⟨_, _, k0, k1⟩ := keyOk_wf hk
   have hlen := notesT_length s k k0 k1 m h2
   obtain ⟨r, hr1, hr2⟩ := iRead_eq s k hk (notesT s k m) (by omega)
   rw [read_back s k hk m hm] at hr2
   have hr3 : r = (m, true) := hr2
   subst hr3
   simp only [if_true]
   have hrn : Ev (fun n => impl_ReadNotesIn.f n s k ⟨(notesT s k m).toArray⟩) (m, 0) := by
    unfold impl_ReadNotesIn.f
    simp only [keyOk_eq, hk, Option.bind_some, if_true]
    refine Ev.bind hr1 ?_
    simp only [if_true]
    exact Ev.now _
   refine Ev.bind hrn ?_
   simp only [if_true]
   exact Ev.bind (same_eq m (by omega)) (Ev.now _)
theorem pitch_part {c c2 : List Int} (hc : Code c) (hc2 : Code c2) : Ev (fun n => laws_FnScripts.j0 n c c2 false) true := by
 obtain ⟨s, k, p, hd⟩ := drawPitchIn_ok hc
 obtain ⟨v, hv, v0, v1⟩ := b10At_ok hc2
 have hb := back_part hc2
 apply Ev_succ
 simp only [laws_FnScripts.j0, Bool.false_eq_true, if_false, hd, Option.bind_some, impl_PitchIn.f, keyOk_eq, ipitchOk_eq]
 cases hk : keyOk s k with
 | false =>
  simp only [Bool.false_eq_true, if_false, Option.bind_some, if_neg (show ¬ ((2 : Int) = 0) by omega)]
  exact hb
 | true =>
  obtain ⟨s0, s1, _, _⟩ := keyOk_wf hk
  by_cases hp : -12 ≤ p ∧ p ≤ 23
  ·simp only [if_true, decide_eq_true hp, pitchIn_eq s k p hk hp.1 hp.2, Option.bind_some, impl_ReadPitchIn.f, keyOk_eq, hk, readPitchIn_eq s k _ hk, rpT_pT s k p hk hp.1 hp.2, hv, wr (show -9223372036854775808 ≤ v - 12 by omega) (by omega), decide_eq_true (show -12 ≤ v - 12 ∧ v - 12 ≤ 23 by omega), pitchIn_eq s k (v - 12) hk (by omega) (by omega), impl_ScriptName.f, named_back s s0 s1, toList_data]
   have e : (pT s k (v - 12) == pT s k p) = (v - 12 == p) := by
    by_cases e : v - 12 = p
    ·rw [e]
     simp
    ·rw [beq_eq_false_iff_ne.2 e, beq_eq_false_iff_ne.2 (fun h => e (pT_inj s k _ _ hk (by omega) (by omega) hp.1 hp.2 h))]
   simp only [e, bne_self_eq_false, Bool.false_eq_true, if_false]
   exact hb
  ·simp only [if_true, decide_eq_false hp, Bool.false_eq_true, if_false, Option.bind_some, if_neg (show ¬ ((2 : Int) = 0) by omega)]
   exact hb
theorem lawW (c c2 : List Int) (h1 : c.length ≤ 9223372036854775807 ∧ ∀ x ∈ c, (Lit.int .u8 x).wf = true) (h2 : c2.length ≤ 9223372036854775807 ∧ ∀ x ∈ c2, (Lit.int .u8 x).wf = true) : ∃ n, laws_FnScripts.f n c c2 = some true := by
 have hwf : ∀ x : Int, (Lit.int .u8 x).wf = true → 0 ≤ x ∧ x ≤ 255 := by
  intro x hx
  have a : IntKind.u8.min = 0 := by decide
  have b : IntKind.u8.max = 255 := by decide
  simp [Lit.wf, a, b] at hx
  omega
 have hz : Ev (fun n => laws_FnScripts.f n c c2) true := by
  have hbad : Ev (fun n => laws_FnScripts.j0 n c c2 true) true := by
   apply Ev_succ
   simp only [laws_FnScripts.j0, if_true]
   exact Ev.now _
  unfold laws_FnScripts.f laws_b10Long.f
  simp only [Option.bind_some]
  by_cases e1 : (c.length : Int) > 1048576
  ·simp only [decide_eq_true e1, if_true]
   exact hbad
  ·simp only [decide_eq_false e1, Bool.false_eq_true, if_false]
   by_cases e2 : (c2.length : Int) > 1048576
   ·simp only [decide_eq_true e2]
    exact hbad
   ·simp only [decide_eq_false e2]
    exact pitch_part ⟨fun x hx => hwf x (h1.2 x hx), by omega⟩ ⟨fun x hx => hwf x (h2.2 x hx), by omega⟩
 exact hz.rounds
end Go.Proofs.YtgklofginkafgaaGreatDoor.Pu
end
section
namespace Go.Proofs.YtgklofginkafgaaGreatDoor.fnScripts
open Go.ChangeShapes Go.WideShapes Go.ChangeAt Go.RowKit Go.Proofs.YtgklofginkafgaaGreatDoorY Go.Proofs.YtgklofginkafgaaGreatDoorW.PrintWords Go.Proofs.YtgklofginkafgaaGreatDoor.PS
open Go.ChangeMaps (open_string shut_string)
set_option linter.unusedVariables false
theorem own : ownKnob Tryz.prog.godebug = none := by kernel_rfl
theorem laidOut : laidOutB Tryz.prog = true := by kernel_rfl
def laid : List (String × DataW Unit) := [("math/bits.deBruijn32tab", Rows.laid_math_bits_deBruijn32tab), ("math/bits.deBruijn64tab", Rows.laid_math_bits_deBruijn64tab), ("internal/strconv.uint64pow10", Rows.laid_internal_strconv_uint64pow10), ("unicode/utf8.acceptRanges", Rows.laid_unicode_utf8_acceptRanges), ("strconv.ErrRange", Rows.laid_strconv_ErrRange), ("strconv.ErrSyntax", Rows.laid_strconv_ErrSyntax), ("unicode/utf8.first", Rows.laid_unicode_utf8_first)]
theorem lv_of {W : World} (h : laidMetH Tryz.prog laid W) (hs : W.ShapedOpen Tryz.prog) : Lv W :=
 ⟨tab_laid (zs := Lib.pow10Tab) (n := 20) (by rw [show (Lib.tabData .u64 Lib.pow10Tab : DataW Unit) = Rows.laid_internal_strconv_uint64pow10 by kernel_rfl]; simp [laid]) (show Tryz.prog.globalNamed "internal/strconv.uint64pow10" = some 1 by kernel_rfl) (by kernel_rfl) Tryz.underlying138 Tryz.underlying78 (by kernel_rfl) (by kernel_rfl) h (by kernel_rfl), cell_of_shapedOpen_int (g := 0) (t := 3) (zero := #[.int .i64 0]) hs (of_decide_eq_true (by kernel_rfl)) (by kernel_rfl) rfl (by kernel_rfl) (by kernel_rfl) Tryz.underlying3, iface_laid (name := "strconv.ErrSyntax") (.tail _ (.tail _ (.tail _ (.tail _ (.tail _ (.head _)))))) (show Tryz.prog.globalNamed "strconv.ErrSyntax" = some 2 by kernel_rfl) (by kernel_rfl) Tryz.underlying101 h (by kernel_rfl), iface_laid (name := "strconv.ErrRange") (.tail _ (.tail _ (.tail _ (.tail _ (.head _))))) (show Tryz.prog.globalNamed "strconv.ErrRange" = some 3 by kernel_rfl) (by kernel_rfl) Tryz.underlying101 h (by kernel_rfl)⟩
set_option maxRecDepth 100000 in
theorem lifted (os : Os) (started : os.Started) (H : Type) (enc : TypeId × Value → H) :
  ReturnsInHanded {} Tryz.checked os 3 .any (fun w args => (Rows.fnScriptsSpec.pre enc Tryz.prog Tryz.f3 [] false w args ∧ laidMetH Tryz.prog laid w) ∧ sizedMet enc Tryz.prog Tryz.f3 (OpenSpec.ofChange Rows.fnScriptsSpec) false w args)
   (Rows.fnScriptsSpec.post enc Tryz.prog Tryz.f3 false true false false) := by
 refine handed_shaped (C := Tryz.checked) (X := fun w _ => laidMetH Tryz.prog laid w) (fun _ _ _ hh h => h.of_heap hh) own started (by kernel_rfl) Tryz.func3
  (ChangeSpec.witness_shaped (enc := enc) (C := Tryz.checked) (os := os) (X := fun w _ => laidMetH Tryz.prog laid w) false (World.laidAll Tryz.prog os laid) #[.slice none 0 0, .slice none 0 0] 8 (World.laidAll_os _ _ _) (World.shaped_of_ZipB (by kernel_rfl) (by kernel_rfl)) (by kernel_rfl) (by kernel_rfl) (by kernel_rfl) (by rw [MakeChecks.laidMetH_plain _ _ _ (by kernel_rfl)]; exact laidMet_laidAll _ (by kernel_rfl) (by kernel_rfl))) ?_
 intro W base args ds gs before hval0 hW _ hsz0 hL hSh _
 have hval : ∀ (j : Nat) t v, Tryz.f3.params[j]? = some t → args[j]? = some v → Value.okWide Tryz.prog W .any base t v := hval0
 have hW' := hW
 obtain ⟨p, q, hA0, hV, rfl, hfz, hnd⟩ := hW
 have hA : DataW.TrodAll enc Tryz.prog W 0 (fun _ => true) true Tryz.f3.params.toList args.toList ds p := hA0
 rw [Tryz.params3] at hA hval
 obtain ⟨v0, vs0, d0, ds0, p0, q0, hargs, rfl, rfl, h0, r0⟩ := trodAll_cons hA
 obtain ⟨v1, vs1, d1, ds1, p1, q1, rfl, rfl, rfl, h1, r1⟩ := trodAll_cons r0
 obtain ⟨rfl, rfl, rfl⟩ := trodAll_nil r1
 obtain rfl : args = #[v0, v1] := by cases args; simp_all
 obtain ⟨rfl, rfl⟩ := trodVars_none hV
 have k0 := h0
 have lt0 : ∀ x ∈ p0, x.block < W.heap.size := by obtain ⟨m, hm⟩ := k0; exact DataW.trod_lt m _ _ _ hm
 obtain ⟨a0, len0, cap0, rfl⟩ := okWide_slice Tryz.underlying22 (hval 0 22 v0 rfl rfl)
 obtain ⟨fu0, hf0⟩ := h0
 obtain ⟨y0, ⟨A0, c0, e0, hc0, hr0⟩, w0⟩ := (Opens.slice (w := W) Tryz.underlying22 (by kernel_rfl) (Opens.int (w := W) Tryz.underlying5 (by kernel_rfl))).2 _ _ _ _ _ _ _ _ hf0
 simp only [Value.cells, List.cons.injEq, Value.slice.injEq, and_true] at e0
 obtain ⟨rfl, rfl, rfl⟩ := e0
 have k1 := h1
 have lt1 : ∀ x ∈ p1, x.block < W.heap.size := by obtain ⟨m, hm⟩ := k1; exact DataW.trod_lt m _ _ _ hm
 obtain ⟨a1, len1, cap1, rfl⟩ := okWide_slice Tryz.underlying22 (hval 1 22 v1 rfl rfl)
 obtain ⟨fu1, hf1⟩ := h1
 obtain ⟨y1, ⟨A1, c1, e1, hc1, hr1⟩, w1⟩ := (Opens.slice (w := W) Tryz.underlying22 (by kernel_rfl) (Opens.int (w := W) Tryz.underlying5 (by kernel_rfl))).2 _ _ _ _ _ _ _ _ hf1
 simp only [Value.cells, List.cons.injEq, Value.slice.injEq, and_true] at e1
 obtain ⟨rfl, rfl, rfl⟩ := e1
 have hLv := lv_of hL hSh
 clear hA0 hval0 hsz0
 obtain ⟨k, hk⟩ := Pu.lawW y0 y1 w0 w1
 refine (laws_FnScripts.calls k a0 cap0 y0 a1 cap1 y1 true W hr0 hc0 hr1 hc1 hLv hk).mono fun e W' ⟨he, bel⟩ => ?_
 subst he
 exact ⟨_, rfl, _, _, _, [], _, [], hW', trodAll_mk1 (shut_bool (show Tryz.prog.underlying 4 = some .bool by kernel_rfl) _), (trodAll_cons_mk (Below.trod laidOut (by kernel_rfl) (of_decide_eq_true (by kernel_rfl)) k0 bel lt0) (trodAll_cons_mk (Below.trod laidOut (by kernel_rfl) (of_decide_eq_true (by kernel_rfl)) k1 bel lt1) trodAll_mk0)), rfl, bel.frame _, fun h => by cases h⟩
theorem over : Rows.fnScriptsRow.holds Tryz.pinned (OpenSpec.ofChange Rows.fnScriptsSpec) :=
 OpenClaim.holds_of_wide 3 Tryz.f3 rfl rfl rfl rfl rfl rfl rfl ⟨rfl, rfl, rfl, rfl, rfl⟩ rfl rfl rfl rfl rfl (by kernel_rfl) Tryz.func3 (by kernel_rfl)
  (of_decide_eq_true (by kernel_rfl)) (by unfold Func.isWrapper; first | (rw [if_pos (by decide +kernel)]; kernel_rfl) | (rw [if_neg (by decide +kernel)]; exact ⟨rfl, rfl⟩))
  (fun os started H enc _ => lifted os started H enc)
end Go.Proofs.YtgklofginkafgaaGreatDoor.fnScripts
namespace Go.Proofs.YtgklofginkafgaaGreatDoor
theorem fnScripts_row_holds : Rows.FnScriptsSaid := fnScripts.over
theorem fnScripts_card : Rows.FnScriptsCardSaid :=
 Claim7.holds_tied_plain_at .later [] [.data, .data, .data, .data, .sentinel, .sentinel, .pinned] true (true, "e7aa81c1a089b0204be1eb4ea0a4c5e64149658d08c57b35b7026cd73802c853") true
  fnScripts_row_holds (fun _ h => by cases h) (by kernel_rfl) (fun _ h => by cases h) fnScripts_row_tie rfl ⟨rfl, rfl⟩ (by kernel_rfl) rfl
  (fun f fn hf hfn => by
   obtain rfl : f = 3 := Option.some.inj ((show Tryz.prog.funcNamed "loop.example/g01033/laws.FnScripts" = some 3 by kernel_rfl).symm.trans hf) |>.symm
   obtain rfl : fn = Tryz.f3 := (Option.some.inj (Tryz.func3.symm.trans hfn)).symm
   exact ⟨by kernel_rfl, fun j t ht => by
    rw [Tryz.params3] at ht
    have hm : t ∈ [22, 22] := by simpa using Array.mem_of_getElem? ht
    have hall : ([22, 22].all fun u => !Tryz.prog.wantsStandIn u) = true := by kernel_rfl
    exact (show Tryz.prog.wantsStandIn t = false by simpa using List.all_eq_true.1 hall t hm)⟩)
  (by kernel_rfl)
end Go.Proofs.YtgklofginkafgaaGreatDoor
end
#print axioms Go.Proofs.YtgklofginkafgaaGreatDoor.fnScripts_card
