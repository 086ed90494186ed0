/- What is proved: fnExactReadTurn_card, without further conditions; this text holds part 4 of 4 of its proof. -/
import Derived.ProofKit
import Derived.LaidMore
import Derived.OpenShut
import Derived.ShutString
import Derived.ChangeOld
import Derived.Below
import Derived.SizedLaws
import Derived.Stop.Joined
import Derived.Lib.LaidTab
import Derived.Deep.Slices
import Derived.Shelf.Vars
import Derived.Test.YtnjpjddliaoboaaDoorTie
import Derived.Test.YtnjpjddliaoboaaDoorCards
import Derived.WalkKit
import Derived.Test.YtnjpjddliaoboaaDoorQReadTurn2
section
namespace Go.Proofs.YtnjpjddliaoboaaDoorY
open Go.RowKit Go.ChangeShapes Go.Proofs.YtnjpjddliaoboaaDoorW.PrintWords
def Opens (P : Program) (w : World) (t : TypeId) {α : Type} (d : Kd α) (wf : α → Prop) : Prop :=
  P.cellsOf t = d.sz ∧ ∀ (H : Type) (enc : TypeId × Value → H) (base : Nat) (sp : Nat → Bool) (held : Bool) (fuel : Nat) (cs : List Value) (x : DataW H × List MemPlace),
    DataW.trod enc P w base sp held fuel t cs = some x → ∃ a, d.K w a cs ∧ wf a
section
variable {P : Program} {w : World}
theorem Opens.int {t : TypeId} {k : IntKind} (ht : P.underlying t = some (.int k)) (hc : P.cellsOf t = 1) : Opens P w t (Kd.int k) (fun n => (Lit.int k n).wf = true) :=
  ⟨hc, fun H enc base sp held fuel cs x h => by
    obtain ⟨n, rfl, _, hw⟩ := DataW.trod_int ht h
    exact ⟨n, rfl, hw⟩⟩
theorem Opens.bool {t : TypeId} (ht : P.underlying t = some .bool) (hc : P.cellsOf t = 1) : Opens P w t Kd.bool (fun _ => True) :=
  ⟨hc, fun H enc base sp held fuel cs x h => by
    obtain ⟨b, rfl, _⟩ := DataW.trod_bool ht h
    exact ⟨b, rfl, trivial⟩⟩
theorem Opens.string {t : TypeId} (ht : P.underlying t = some .string) (hc : P.cellsOf t = 1) : Opens P w t Kd.string (fun s => s.size ≤ 9223372036854775807) :=
  ⟨hc, fun H enc base sp held fuel cs x h => by
    obtain ⟨s, rfl, _, hs⟩ := DataW.trod_string ht h
    exact ⟨s, rfl, hs⟩⟩
theorem choose_list {α : Type} {p : Nat → α → Prop} : ∀ (n : Nat), (∀ i, i < n → ∃ a, p i a) → ∃ l : List α, l.length = n ∧ ∀ i a, l[i]? = some a → p i a
  | 0, _ => ⟨[], rfl, fun i a h => by simp at h⟩
  | n + 1, h => by
    obtain ⟨l, hl, hp⟩ := choose_list n (fun i hi => h i (by omega))
    obtain ⟨a, ha⟩ := h n (by omega)
    refine ⟨l ++ [a], by simp [hl], fun i b hb => ?_⟩
    by_cases hi : i < n
    · rw [List.getElem?_append_left (by omega)] at hb
      exact hp i b hb
    · rw [List.getElem?_append_right (by omega)] at hb
      have h0 : i - l.length = 0 := by
        rcases Nat.eq_zero_or_pos (i - l.length) with h | h
        · exact h
        · rw [List.getElem?_eq_none (by simp; omega)] at hb; cases hb
      rw [h0] at hb
      simp at hb
      subst hb
      have : i = n := by omega
      subst this
      exact ha
theorem Opens.slice {t e : TypeId} {α : Type} {d : Kd α} {wf : α → Prop} (ht : P.underlying t = some (.slice e)) (hc : P.cellsOf t = 1) (o : Opens P w e d wf) :
    Opens P w t (Kd.slice e d) (fun l => l.length ≤ 9223372036854775807 ∧ ∀ a ∈ l, wf a) :=
  ⟨hc, fun H enc base sp held fuel cs x h => by
    rcases Go.Deep.open_slice ht h with ⟨rfl, _⟩ | ⟨a, len, cap, m, n, D, Pl, rfl, _, hl, hm, hmm, _, hx⟩
    · exact ⟨[], ⟨none, 0, rfl, Nat.le_refl _, rfl, by simp, fun h => absurd h (by simp)⟩, by simp, by simp⟩
    · have hle : len ≤ m := by rw [hmm]; split <;> omega
      have hmx : cap ≤ 9223372036854775807 := hm
      obtain ⟨l, hlen, hp⟩ := choose_list (p := fun i y => (∃ c, c.length = d.sz ∧ d.K w y c ∧ ∀ j u, c[j]? = some u → w.cell? (a.add (i * d.sz + j)) = some u) ∧ wf y) len (fun i hi => by
        obtain ⟨cs', h1, h2⟩ := hx i (by omega)
        obtain ⟨y, hK, hw⟩ := o.2 H enc base sp held n cs' _ h2
        obtain ⟨_, hl', hcell⟩ := World.cells?_some h1
        rw [o.1] at hl' hcell
        refine ⟨y, ⟨cs', hl', hK, fun j u hu => ?_⟩, hw⟩
        have hj : j < d.sz := by
          rcases Nat.lt_or_ge j cs'.length with h | h
          · omega
          · rw [List.getElem?_eq_none h] at hu; cases hu
        have := hcell j hj
        rw [add_add] at this
        rw [this, hu])
      refine ⟨l, ⟨some a, cap, by rw [hlen], by omega, ⟨rfl, by omega, fun _ => ⟨a, rfl, fun j y hy => (hp j y hy).1⟩⟩⟩, by omega, fun y hy => ?_⟩
      obtain ⟨i, hi⟩ := List.mem_iff_getElem?.1 hy
      exact (hp i y hi).2⟩
def OpensL (P : Program) (w : World) (fs : List Field) (off : Nat) {α : Type} (d : Kd α) (wf : α → Prop) : Prop :=
  ∀ (H : Type) (enc : TypeId × Value → H) (base : Nat) (sp : Nat → Bool) (held : Bool) (fuel : Nat) (cs : List Value),
    (∀ f ∈ fs, ∃ x, DataW.trod enc P w base sp held fuel f.type ((cs.drop f.offset).take (P.cellsOf f.type)) = some x) → cs.length = off + d.sz → ∃ a, d.K w (a : α) (cs.drop off) ∧ wf a
theorem OpensL.cons {f : Field} {fs : List Field} {off : Nat} {α β : Type} {d : Kd α} {e : Kd β} {wf : α → Prop} {wf' : β → Prop} (o : Opens P w f.type d wf) (ho : f.offset = off) (r : OpensL P w fs (off + d.sz) e wf') :
    OpensL P w (f :: fs) off (Kd.pair d e) (fun p => wf p.1 ∧ wf' p.2) := by
  intro H enc base sp held fuel cs h hl
  have hs : (Kd.pair d e).sz = d.sz + e.sz := rfl
  obtain ⟨x, hx⟩ := h f (List.mem_cons_self ..)
  obtain ⟨b, hb, hwb⟩ := r H enc base sp held fuel cs (fun g hg => h g (List.mem_cons_of_mem _ hg)) (by omega)
  rw [o.1, ho] at hx
  obtain ⟨a, ha, hwa⟩ := o.2 _ _ _ _ _ _ _ _ hx
  refine ⟨(a, b), ⟨(cs.drop off).take d.sz, cs.drop (off + d.sz), ?_, ?_, ?_⟩, hwa, hwb⟩
  all_goals first
    | exact ha
    | exact hb
    | (rw [← List.drop_drop, List.take_append_drop])
theorem Opens.struct {t : TypeId} {fs : Array Field} {α β : Type} {d : Kd α} {wf : α → Prop} {f : β → α} (g : α → β) (hg : ∀ a, f (g a) = a) (ht : P.underlying t = some (.struct fs)) (hc : P.cellsOf t = d.sz) (o : OpensL P w fs.toList 0 d wf) :
    Opens P w t (Kd.iso d f) (fun b => wf (f b)) :=
  ⟨hc, fun H enc base sp held fuel cs x h => by
    obtain ⟨xs, n, _, _, hl, hn, hf⟩ := DataW.trod_struct ht h
    obtain ⟨a, ha, hw⟩ := o H enc base sp held n cs (fun f hm => by
      obtain ⟨i, hi⟩ := List.mem_iff_getElem?.1 hm
      have hi' : fs[i]? = some f := by rw [← hi, Array.getElem?_toList]
      have := hf i f hi'
      have hlt : i < xs.length := by
        rcases Nat.lt_or_ge i fs.size with h | h
        · omega
        · rw [Array.getElem?_eq_none h] at hi'; cases hi'
      rw [List.getElem?_eq_getElem hlt] at this
      exact ⟨_, this⟩) (by rw [hl, hc]; omega)
    have e : f (g a) = a := hg a
    exact ⟨g a, by show d.K w (f (g a)) cs; rw [e]; exact ha, by show wf (f (g a)); rw [e]; exact hw⟩⟩
theorem laid_mem {laid : List (String × DataW Unit)} {n : String} {d : DataW Unit} (hm : (n, d) ∈ laid) : ∀ {ps : List MemPlace}, DataW.LaidVars P w laid ps →
    ∃ g t cs fuel p, P.globalNamed n = some g ∧ (P.globals[g]?).map (·.type) = some t ∧ w.var? P n = some cs ∧ DataW.trod (fun _ => ()) P w 0 (fun _ => true) false fuel t cs.toList = some (d, p) := by
  induction laid with
  | nil => cases hm
  | cons a l ih =>
    obtain ⟨m, e⟩ := a
    rintro ps ⟨g, t, cs, fuel, p, q, h1, h2, h3, h4, h5, _⟩
    rcases List.mem_cons.1 hm with h | h
    · cases h
      exact ⟨g, t, cs, fuel, p, h1, h2, h3, h4⟩
    · exact ih h h5
theorem tab_laid {laid : List (String × DataW Unit)} {name : String} {k : IntKind} {zs : List Int} (hm : (name, Lib.tabData k zs) ∈ laid) {g : Nat} {t e : TypeId} {n : Nat}
    (hg : P.globalNamed name = some g) (hty : (P.globals[g]?).map (·.type) = some t) (ht : P.underlying t = some (.array n e)) (he : P.underlying e = some (.int k)) (hce : P.cellsOf e = 1) (hct : P.cellsOf t = n)
    (h : laidMetH P laid w) (hp : (laid.all fun x => x.2.handleName?.isNone) = true) : Lib.TabIs P w name k zs := by
  rw [MakeChecks.laidMetH_plain _ _ _ hp] at h
  obtain ⟨ps, hv, _⟩ := h
  obtain ⟨g', t', cs, fuel, p, hg', ht', hvar, hd⟩ := laid_mem hm hv
  obtain rfl := Option.some.inj (hg.symm.trans hg')
  obtain rfl := Option.some.inj (hty.symm.trans ht')
  unfold Lib.TabIs
  rw [hvar, ← Lib.cells_of_tab ht he hce hct hd]
theorem iface_laid {laid : List (String × DataW Unit)} {name tn : String} {dd : DataW Unit} (hm : (name, DataW.iface tn dd) ∈ laid) {g : Nat} {t : TypeId} {ms : Array (String × TypeId)}
    (hg : P.globalNamed name = some g) (hty : (P.globals[g]?).map (·.type) = some t) (ht : P.underlying t = some (.interface ms))
    (h : laidMetH P laid w) (hp : (laid.all fun x => x.2.handleName?.isNone) = true) : ∃ tp p, w.var? P name = some #[.iface tp p] := by
  rw [MakeChecks.laidMetH_plain _ _ _ hp] at h
  obtain ⟨ps, hv, _⟩ := h
  obtain ⟨g', t', cs, fuel, p, hg', ht', hvar, hd⟩ := laid_mem hm hv
  obtain rfl := Option.some.inj (hg.symm.trans hg')
  obtain rfl := Option.some.inj (hty.symm.trans ht')
  obtain ⟨l⟩ := cs
  cases fuel with
  | zero => simp [DataW.trod] at hd
  | succ n =>
    unfold DataW.trod at hd
    rw [ht] at hd
    split at hd <;> simp_all
end
theorem handed_shaped {H : Type} {enc : TypeId × Value → H} {a : Assume} {C : Checked} {os : Os} {f : FuncId} {fn : Func} {s : ChangeSpec} {conds : List PathCond} {apart fresh handsOn again : Bool} {X : World → Array Value → Prop}
    (hX : ∀ (w w' : World) (args : Array Value), w.heap = w'.heap → X w args → X w' args)
    (own : ownKnob C.prog.godebug = none) (started : os.Started) (noInit : C.prog.inits.idxOf? f = none) (hfn : C.prog.funcs[f]? = some fn)
    (witness : ∃ (w : World) (tape : Tape) (i : Input), w.os = os ∧ (w.forCall tape i).Shaped C.prog ∧ i.vars = [] ∧ Input.okWide C.prog (w.forCall tape i) .any w.heap.size f i ∧
      ((s.pre enc C.prog fn conds apart (w.forCall tape i).memory i.args ∧ X (w.forCall tape i).memory i.args) ∧ sizedMet enc C.prog fn (OpenSpec.ofChange s) apart (w.forCall tape i).memory i.args) ∧ a.holds C.prog (lone (Frame.enter C.prog f i.args .normal) [] (w.forCall tape i)))
    (contract : ∀ (W : World) (base : Nat) (args : Array Value) (ds gs : List (DataW H)) (before : List MemPlace),
      (∀ (j : Nat) t v, fn.params[j]? = some t → args[j]? = some v → Value.okWide C.prog W .any base t v) →
      DataW.Whole enc C.prog fn.params.toList s.vars apart W args.toList ds gs before →
      conds.all (PathCond.test C.prog ⟨fn.params.toList, ds, s.plain.varTypes C.prog, gs⟩) = true →
      (DataW.weightsEach C.prog (fn.params.toList ++ s.plain.varTypes C.prog) (ds ++ gs)).all (· ≤ reachBytes) = true → X W args → W.ShapedOpen C.prog →
      a.holds C.prog (lone (Frame.enter C.prog f args .normal) [] W) →
      Calls C.prog f args W fun e W' => ∃ v, e = .returned v ∧ s.post enc C.prog fn apart fresh handsOn again W args v W') :
    ReturnsInHanded a C os f .any (fun w args => (s.pre enc C.prog fn conds apart w args ∧ X w args) ∧ sizedMet enc C.prog fn (OpenSpec.ofChange s) apart w args) (s.post enc C.prog fn apart fresh handsOn again) := by
  refine returnsInHanded_of_calls own started noInit witness ?_
  intro w tape i _ hsh _ hok hpre hholds
  obtain ⟨_, _, _, fn', hfn', _, _, _, _, hval⟩ := hok
  have e : fn' = fn := Option.some.inj (hfn'.symm.trans hfn)
  subst e
  obtain ⟨⟨⟨ds, gs, before, hw, hc⟩, hx⟩, hz⟩ := hpre
  have hw' := DataW.Whole.of_heap (w' := w.forCall tape i) (by rfl) hw
  refine (contract (w.forCall tape i) w.heap.size i.args ds gs before hval hw' hc (hz.weights hw) (hX _ _ _ (by rfl) hx) hsh hholds).mono fun e W' ⟨v, he, hp⟩ => ?_
  subst he
  exact ChangeSpec.post_blind hp
end Go.Proofs.YtnjpjddliaoboaaDoorY
end
section
namespace Go.Proofs.YtnjpjddliaoboaaDoor.Pu
set_option linter.unusedSimpArgs false
set_option linter.unusedVariables false
open Go.RowKit Go.Proofs.YtnjpjddliaoboaaDoorW.PrintWords
theorem wr {x : Int} (h0 : -9223372036854775808 ≤ x) (h1 : x ≤ 9223372036854775807) : wrap64 x = x := by
  unfold wrap64
  omega
theorem Ev_succ {α : Type} {g : Nat → Option α} {r : α} (h : Ev (fun k => g (k + 1)) r) : Ev g r := Ev.step (fun _ => rfl) h
theorem Ev_ite {α : Type} {c : Prop} [Decidable c] {a b : Nat → Option α} {r : α} (h1 : c → Ev a r) (h2 : ¬ c → Ev b r) : Ev (fun k => if c then a k else b k) r := by
  by_cases hc : c
  · simp only [if_pos hc]
    exact h1 hc
  · simp only [if_neg hc]
    exact h2 hc
theorem bytes_ext {a b : ByteArray} (h : a.data.toList = b.data.toList) : a = b := by
  cases a
  cases b
  simp only [ByteArray.mk.injEq]
  exact Array.toList_inj.1 h
theorem size_mk (l : List UInt8) : (⟨l.toArray⟩ : ByteArray).size = l.length := by simp [ByteArray.size]
theorem size_toList (s : ByteArray) : s.size = s.data.toList.length := by rw [Array.length_toList]; rfl
theorem app_mk (a b : List UInt8) : (⟨a.toArray⟩ : ByteArray) ++ ⟨b.toArray⟩ = ⟨(a ++ b).toArray⟩ := by
  apply bytes_ext
  simp
def allFrom (p : Int → Bool) (s : ByteArray) : Nat → Nat → Bool
  | _, 0 => true
  | i, d + 1 => p (bt s i) && allFrom p s (i + 1) d
theorem toList_data (s : ByteArray) : s.toList = s.data.toList := ByteArray.toList_eq s
theorem toList_nil_iff (s : ByteArray) : s.toList = ([] : List UInt8) ↔ s.size = 0 := by
  rw [toList_data, size_toList, List.length_eq_zero_iff]
end Go.Proofs.YtnjpjddliaoboaaDoor.Pu
end
section
namespace Go.Proofs.YtnjpjddliaoboaaDoor.Pu
set_option linter.unusedSimpArgs false
set_option linter.unusedVariables false
open Go.RowKit Go.Proofs.YtnjpjddliaoboaaDoorW.PrintWords Go.Proofs.YtnjpjddliaoboaaDoor.PC
theorem decDigits_lt (j : Nat) : ∀ u, u < 10 ^ (j + 1) → (Lib.decDigits u).length ≤ j + 1 := by
  induction j with
  | zero =>
    intro u hu
    rw [Lib.decDigits, dif_pos (by simpa using hu)]
    simp
  | succ j ih =>
    intro u hu
    rw [Lib.decDigits]
    by_cases h : u < 10
    · rw [dif_pos h]
      simp
    · rw [dif_neg h, List.length_append]
      have := ih (u / 10) (by rw [Nat.pow_succ] at hu; omega)
      simp only [List.length_singleton]
      omega
theorem itoa_length (n : Int) (h1 : -9223372036854775808 ≤ n) (h2 : n ≤ 9223372036854775807) : (Lib.itoa n).length ≤ 20 := by
  unfold Lib.itoa
  by_cases hn : n < 0
  · rw [if_pos hn, List.length_cons]
    have := decDigits_lt 18 n.natAbs (by omega)
    omega
  · rw [if_neg hn]
    have := decDigits_lt 18 n.toNat (by omega)
    omega
theorem Decimal_eq (n : Int) (h1 : -9223372036854775808 ≤ n) (h2 : n ≤ 9223372036854775807) : impl_Decimal.f n = some ⟨(Lib.itoa n).toArray⟩ := by
  unfold impl_Decimal.f
  rw [if_pos ⟨h1, h2⟩]
end Go.Proofs.YtnjpjddliaoboaaDoor.Pu
end
section
namespace Go.Proofs.YtnjpjddliaoboaaDoor.Pu
set_option linter.unusedSimpArgs false
set_option linter.unusedVariables false
open Go.RowKit Go.Proofs.YtnjpjddliaoboaaDoorW.PrintWords Go.Proofs.YtnjpjddliaoboaaDoor.PC
def isD (c : UInt8) : Bool := decide (48 ≤ c.toNat ∧ c.toNat ≤ 57)
theorem ofNat_digit (n : Nat) (h : n < 10) : (UInt8.ofNat (48 + n)).toNat = 48 + n := by
  rw [UInt8.toNat_ofNat']
  omega
theorem dec_digits (u : Nat) : ∀ c ∈ Lib.decDigits u, 48 ≤ c.toNat ∧ c.toNat ≤ 57 := by
  induction u using Nat.strongRecOn with
  | _ u ih =>
    intro c hc
    rw [Lib.decDigits] at hc
    by_cases h : u < 10
    · rw [dif_pos h] at hc
      rw [List.mem_singleton.1 hc, ofNat_digit u h]
      omega
    · rw [dif_neg h] at hc
      rcases List.mem_append.1 hc with hc | hc
      · exact ih (u / 10) (by omega) c hc
      · rw [List.mem_singleton.1 hc, ofNat_digit (u % 10) (by omega)]
        omega
theorem dec_ne (u : Nat) : Lib.decDigits u ≠ [] := by
  rw [Lib.decDigits]
  by_cases h : u < 10
  · rw [dif_pos h]
    simp
  · rw [dif_neg h]
    simp
theorem parseM_dec (M : Nat) (hM : 1000000000000000000 ≤ M) (u : Nat) : u < 1000000000000000000 → ∀ r, Lib.parseUintM M 0 (Lib.decDigits u ++ r) = Lib.parseUintM M u r := by
  induction u using Nat.strongRecOn with
  | _ u ih =>
    intro hu r
    rw [Lib.decDigits]
    by_cases h : u < 10
    · rw [dif_pos h, List.singleton_append, Lib.parseUintM, ofNat_digit u h, if_pos (by omega), if_neg (by omega), if_neg (by omega)]
      congr 1
      omega
    · rw [dif_neg h, List.append_assoc, List.singleton_append, ih (u / 10) (by omega) (by omega), Lib.parseUintM, ofNat_digit (u % 10) (by omega), if_pos (by omega), if_neg (by omega), if_neg (by omega)]
      congr 1
      omega
theorem parseIntB_dec (u : Nat) (hu : u < 1000000000000000000) : Lib.parseIntB 64 (Lib.decDigits u) = .ok (u : Int) := by
  have h := parseM_dec (2 ^ 64 - 1) (by decide) u hu []
  rw [List.append_nil] at h
  have hd := dec_digits u
  have hn := dec_ne u
  generalize Lib.decDigits u = l at h hd hn
  cases l with
  | nil => exact absurd rfl hn
  | cons c r =>
    have hc := hd c (by simp)
    have h1 : ¬ (c.toNat = 43 ∨ c.toNat = 45) := by omega
    have h2 : ¬ (c.toNat = 45) := by omega
    have e : Lib.parseUintB 64 (c :: r) = .ok u := by
      unfold Lib.parseUintB
      rw [if_neg hn, h]
      rfl
    unfold Lib.parseIntB
    simp only
    rw [if_neg h1, e]
    simp only [h2, not_false_eq_true, true_and, false_and, if_false]
    rw [if_neg (by simp only [Nat.reduceSub, Nat.reducePow]; omega)]
def stepD (a : Nat) (c : UInt8) : Nat := 10 * a + (c.toNat - 48)
def valD (acc : Nat) (l : List UInt8) : Nat := l.foldl stepD acc
theorem valD_nil (acc : Nat) : valD acc [] = acc := List.foldl_nil
theorem valD_cons (acc : Nat) (c : UInt8) (r : List UInt8) : valD acc (c :: r) = valD (10 * acc + (c.toNat - 48)) r := List.foldl_cons ..
theorem valD_append (x y : List UInt8) (acc : Nat) : valD acc (x ++ y) = valD (valD acc x) y := List.foldl_append ..
theorem valD_dec (u : Nat) : valD 0 (Lib.decDigits u) = u := by
  induction u using Nat.strongRecOn with
  | _ u ih =>
    rw [Lib.decDigits]
    by_cases h : u < 10
    · rw [dif_pos h]
      simp only [valD_cons, valD_nil, ofNat_digit u h]
      omega
    · rw [dif_neg h, valD_append, ih (u / 10) (by omega)]
      simp only [valD_cons, valD_nil, ofNat_digit (u % 10) (by omega)]
      omega
theorem digit_back (c : UInt8) (h : 48 ≤ c.toNat) : UInt8.ofNat (48 + (c.toNat - 48)) = c := by
  rw [show 48 + (c.toNat - 48) = c.toNat by omega]
  exact UInt8.ofNat_toNat
theorem dec_valD (n : Nat) : ∀ l : List UInt8, l.length = n → (∀ c ∈ l, 48 ≤ c.toNat ∧ c.toNat ≤ 57) → l ≠ [] → l.head? ≠ some 48 → Lib.decDigits (valD 0 l) = l ∧ 1 ≤ valD 0 l := by
  induction n with
  | zero => intro l hl _ hn; exact absurd (List.eq_nil_of_length_eq_zero hl) hn
  | succ n ih =>
    intro l hl hd hn hh
    have e := (List.dropLast_concat_getLast hn).symm
    generalize hi : l.dropLast = init at e
    generalize l.getLast hn = c at e
    subst e
    have hc := hd c (by simp)
    cases init with
    | nil =>
      simp only [List.nil_append, List.head?_cons, ne_eq, Option.some.injEq] at hh
      have h1 : c.toNat ≠ 48 := fun e => hh (by rw [← UInt8.toNat_inj]; exact e)
      simp only [List.nil_append, valD_cons, valD_nil]
      refine ⟨?_, by omega⟩
      rw [Lib.decDigits, dif_pos (by omega), Nat.mul_zero, Nat.zero_add, digit_back c hc.1]
    | cons a t =>
      obtain ⟨h1, h2⟩ := ih (a :: t) (by simpa using hl) (fun x hx => hd x (by simp only [List.mem_append]; exact .inl hx)) (by simp) (by simpa using hh)
      rw [valD_append]
      simp only [valD_cons, valD_nil]
      refine ⟨?_, by simp only [valD_cons, valD_nil] at h2; omega⟩
      simp only [valD_cons, valD_nil] at h1 h2
      rw [Lib.decDigits, dif_neg (by omega)]
      rw [show (10 * valD (10 * 0 + (a.toNat - 48)) t + (c.toNat - 48)) / 10 = valD (10 * 0 + (a.toNat - 48)) t by omega, show (10 * valD (10 * 0 + (a.toNat - 48)) t + (c.toNat - 48)) % 10 = c.toNat - 48 by omega, h1, digit_back c hc.1]
theorem dec_head (u : Nat) : 1 ≤ u → (Lib.decDigits u).head? ≠ some 48 := by
  induction u using Nat.strongRecOn with
  | _ u ih =>
    intro hu
    rw [Lib.decDigits]
    by_cases h : u < 10
    · rw [dif_pos h]
      simp only [List.head?_cons, ne_eq, Option.some.injEq]
      intro e
      have := congrArg UInt8.toNat e
      rw [ofNat_digit u h] at this
      have h48 : (48 : UInt8).toNat = 48 := rfl
      omega
    · rw [dif_neg h]
      have h1 := ih (u / 10) (by omega) (by omega)
      have h2 := dec_ne (u / 10)
      cases hl : Lib.decDigits (u / 10) with
      | nil => exact absurd hl h2
      | cons a t =>
        rw [hl] at h1
        simpa using h1
theorem itoa_nat (n : Int) (h : 0 ≤ n) : Lib.itoa n = Lib.decDigits n.toNat := by
  unfold Lib.itoa
  rw [if_neg (by omega)]
def numR : List UInt8 → Int × Bool
  | [] => (0, false)
  | c :: r =>
    if c.toNat = 45 then (if r = [] ∨ 18 < r.length ∨ r.head? = some 48 then (0, false) else if r.all isD = true then (-(valD 0 r : Int), true) else (0, false))
    else (if 18 < r.length + 1 ∨ (c = 48 ∧ r ≠ []) then (0, false) else if (c :: r).all isD = true then ((valD 0 (c :: r) : Int), true) else (0, false))
theorem all_isD {l : List UInt8} (h : l.all isD = true) : ∀ c ∈ l, 48 ≤ c.toNat ∧ c.toNat ≤ 57 := fun c hc => of_decide_eq_true (List.all_eq_true.1 h c hc)
theorem isD_all {l : List UInt8} (h : ∀ c ∈ l, 48 ≤ c.toNat ∧ c.toNat ≤ 57) : l.all isD = true := List.all_eq_true.2 fun c hc => decide_eq_true (h c hc)
theorem numR_true (l : List UInt8) (n : Int) (h : numR l = (n, true)) (h0 : 0 ≤ n) : l = Lib.itoa n := by
  cases l with
  | nil => simp [numR] at h
  | cons c r =>
    simp only [numR] at h
    by_cases hc : c.toNat = 45
    · rw [if_pos hc] at h
      split at h
      · simp at h
      · rename_i hn
        split at h
        · rename_i ha
          injection h with h1 _
          have h2 := (dec_valD r.length r rfl (all_isD ha) (fun e => hn (.inl e)) (fun e => hn (.inr (.inr e)))).2
          omega
        · simp at h
    · rw [if_neg hc] at h
      split at h
      · simp at h
      · rename_i hn
        split at h
        · rename_i ha
          injection h with h1 _
          rw [← h1, itoa_nat _ (by omega), Int.toNat_natCast]
          by_cases h48 : c = 48
          · have hr : r = [] := Classical.byContradiction fun e => hn (.inr ⟨h48, e⟩)
            subst hr
            subst h48
            simp only [valD_cons, valD_nil]
            rw [Lib.decDigits, dif_pos (by decide)]
            rfl
          · exact (dec_valD (c :: r).length (c :: r) rfl (all_isD ha) (by simp) (by simpa using h48)).1.symm
        · simp at h
theorem numR_itoa (n : Int) (h0 : 0 ≤ n) (h1 : n ≤ 100000000) : numR (Lib.itoa n) = (n, true) := by
  have hv := valD_dec n.toNat
  have hd := dec_digits n.toNat
  have hn := dec_ne n.toNat
  have hl := decDigits_lt 9 n.toNat (by omega)
  have hh : Lib.decDigits n.toNat = [48] ∨ (Lib.decDigits n.toNat).head? ≠ some 48 := by
    by_cases hz : n.toNat = 0
    · left
      rw [hz, Lib.decDigits, dif_pos (by decide)]
      rfl
    · exact .inr (dec_head _ (by omega))
  rw [itoa_nat n h0]
  generalize Lib.decDigits n.toNat = l at hv hd hn hl hh
  cases l with
  | nil => exact absurd rfl hn
  | cons c r =>
    have hc := hd c (by simp)
    simp only [numR]
    rw [if_neg (by omega), if_neg, if_pos (isD_all hd), hv, Int.toNat_of_nonneg h0]
    rintro (h | ⟨h, h2⟩)
    · simp only [List.length_cons] at hl
      omega
    · rcases hh with e | e
      · injection e with _ e2
        exact h2 e2
      · exact e (by rw [h]; rfl)
end Go.Proofs.YtnjpjddliaoboaaDoor.Pu
end
section
namespace Go.Proofs.YtnjpjddliaoboaaDoor.Pu
set_option linter.unusedSimpArgs false
set_option linter.unusedVariables false
open Go.RowKit Go.Proofs.YtnjpjddliaoboaaDoorW.PrintWords Go.Proofs.YtnjpjddliaoboaaDoor.PC
def headOn {α : Type} (p : List α) : List (List α) → List (List α)
  | [] => [p]
  | x :: xs => (p ++ x) :: xs
def splitB (b : UInt8) : List UInt8 → List (List UInt8)
  | [] => [[]]
  | c :: r => if c = b then [] :: splitB b r else headOn [c] (splitB b r)
theorem splitB_ne (b : UInt8) (l : List UInt8) : splitB b l ≠ [] := by
  cases l with
  | nil => simp [splitB]
  | cons c r =>
    unfold splitB
    split
    · simp
    · unfold headOn
      split <;> simp
theorem headOn_headOn {α : Type} (p q : List α) (L : List (List α)) : headOn p (headOn q L) = headOn (p ++ q) L := by
  cases L <;> simp [headOn]
theorem headOn_nil {α : Type} {L : List (List α)} (h : L ≠ []) : headOn [] L = L := by
  cases L with
  | nil => exact absurd rfl h
  | cons x xs => simp [headOn]
theorem splitB_not (b : UInt8) (x : List UInt8) (h : b ∉ x) (r : List UInt8) : splitB b (x ++ r) = headOn x (splitB b r) := by
  induction x with
  | nil => rw [List.nil_append, headOn_nil (splitB_ne b r)]
  | cons c x ih =>
    have h1 : ¬ (c = b) := fun e => h (by rw [e]; simp)
    have h2 := ih (fun e => h (by simp [e]))
    rw [List.cons_append, splitB, if_neg h1, h2, headOn_headOn]
    rfl
theorem splitB_two (b : UInt8) (x y : List UInt8) (hx : b ∉ x) (hy : b ∉ y) : splitB b (x ++ b :: y) = [x, y] := by
  have h1 := splitB_not b y hy []
  rw [List.append_nil] at h1
  rw [splitB_not b x hx, splitB, if_pos rfl, h1]
  simp [headOn, splitB]
theorem splitB_one (b : UInt8) (l p : List UInt8) (h : splitB b l = [p]) : l = p ∧ b ∉ p := by
  induction l generalizing p with
  | nil =>
    simp only [splitB, List.cons.injEq, and_true] at h
    subst h
    exact ⟨rfl, by simp⟩
  | cons c r ih =>
    unfold splitB at h
    by_cases hc : c = b
    · rw [if_pos hc] at h
      injection h with h1 h2
      exact absurd h2 (splitB_ne b r)
    · rw [if_neg hc] at h
      cases hs : splitB b r with
      | nil => exact absurd hs (splitB_ne b r)
      | cons q qs =>
        rw [hs] at h
        simp only [headOn, List.cons.injEq] at h
        obtain ⟨h1, h2⟩ := h
        subst h2
        obtain ⟨e1, e2⟩ := ih q hs
        subst h1
        subst e1
        refine ⟨rfl, ?_⟩
        simp only [List.singleton_append, List.mem_cons, not_or]
        exact ⟨fun e => hc e.symm, e2⟩
theorem splitB_pair (b : UInt8) (l x y : List UInt8) (h : splitB b l = [x, y]) : l = x ++ b :: y ∧ b ∉ x ∧ b ∉ y := by
  induction l generalizing x with
  | nil => simp [splitB] at h
  | cons c r ih =>
    unfold splitB at h
    by_cases hc : c = b
    · rw [if_pos hc] at h
      injection h with h1 h2
      obtain ⟨e1, e2⟩ := splitB_one b r y h2
      subst h1
      subst e1
      exact ⟨by rw [hc]; rfl, by simp, e2⟩
    · rw [if_neg hc] at h
      cases hs : splitB b r with
      | nil => exact absurd hs (splitB_ne b r)
      | cons q qs =>
        rw [hs] at h
        simp only [headOn, List.cons.injEq] at h
        obtain ⟨h1, h2⟩ := h
        subst h2
        obtain ⟨e1, e2, e3⟩ := ih q hs
        subst h1
        subst e1
        refine ⟨rfl, ?_, e3⟩
        simp only [List.singleton_append, List.mem_cons, not_or]
        exact ⟨fun e => hc e.symm, e2⟩
theorem cut_byte (b : UInt8) (x y : List UInt8) (h : b ∉ x) : Lib.cut (x ++ b :: y) [b] = (x, y, true) := by
  have hi : Lib.index (x ++ b :: y) [b] = (x.length : Int) := by
    apply Lib.index_first
    · simp
    · simp [Lib.occAt, List.isPrefixOf]
    · intro j hj
      unfold Lib.occAt
      rw [List.drop_append_of_le_length (by omega), List.drop_eq_getElem_cons hj]
      have hne : ¬ (b = x[j]) := fun e => h (e ▸ List.getElem_mem hj)
      show ((b == x[j]) && _) = false
      rw [beq_eq_false_iff_ne.2 hne]
      rfl
  unfold Lib.cut
  rw [hi, if_pos (by omega)]
  simp
end Go.Proofs.YtnjpjddliaoboaaDoor.Pu
end
section
namespace Go.Proofs.YtnjpjddliaoboaaDoor.Pu
set_option linter.unusedSimpArgs false
set_option linter.unusedVariables false
open Go.RowKit Go.Proofs.YtnjpjddliaoboaaDoorW.PrintWords Go.Proofs.YtnjpjddliaoboaaDoor.PC
theorem l00In_eq (a b c : Int) : spec_l00In.f a b c = some (decide (b ≤ a ∧ a ≤ c)) := by
  unfold spec_l00In.f
  by_cases h : a ≥ b
  · rw [if_pos h]
    simp only [ge_iff_le] at h
    simp [h]
  · rw [if_neg h]
    simp only [ge_iff_le] at h
    simp [h]
theorem within_eq (a b c : Int) : impl_within.f a b c = some (decide (b ≤ a ∧ a ≤ c)) := by
  unfold impl_within.f
  by_cases h : a ≥ b
  · rw [if_pos h]
    simp only [ge_iff_le] at h
    simp [h]
  · rw [if_neg h]
    simp only [ge_iff_le] at h
    simp [h]
end Go.Proofs.YtnjpjddliaoboaaDoor.Pu
end
section
namespace Go.Proofs.YtnjpjddliaoboaaDoor.Pu
set_option linter.unusedSimpArgs false
set_option linter.unusedVariables false
open Go.RowKit Go.Proofs.YtnjpjddliaoboaaDoorW.PrintWords Go.Proofs.YtnjpjddliaoboaaDoor.PC
def nmC (c : Int) : Bool := decide (97 ≤ c ∧ c ≤ 122) || decide (48 ≤ c ∧ c ≤ 57)
def isNm (s : ByteArray) : Bool := decide (1 ≤ s.size ∧ s.size ≤ 10) && (decide (97 ≤ bt s 0 ∧ bt s 0 ≤ 122) && allFrom nmC s 0 s.size)
theorem small_eq (c : Int) : spec_l01Small.f c = some (decide (97 ≤ c ∧ c ≤ 122)) := by
  unfold spec_l01Small.f
  by_cases h : c ≥ 97
  · rw [if_pos h]
    simp only [ge_iff_le] at h
    simp [h]
  · rw [if_neg h]
    simp only [ge_iff_le] at h
    simp [h]
theorem digit_eq (c : Int) : spec_l01Digit.f c = some (decide (48 ≤ c ∧ c ≤ 57)) := by
  unfold spec_l01Digit.f
  by_cases h : c ≥ 48
  · rw [if_pos h]
    simp only [ge_iff_le] at h
    simp [h]
  · rw [if_neg h]
    simp only [ge_iff_le] at h
    simp [h]
theorem l01Name_l0 (s : ByteArray) (hs : s.size ≤ 9223372036854775806) (d : Nat) : ∀ i : Nat, i + d = s.size → Ev (fun k => spec_l01Name.l0 k s (i : Int)) (allFrom nmC s i d) := by
  induction d with
  | zero =>
    intro i hi
    apply Ev_succ
    simp only [spec_l01Name.l0, if_neg (show ¬ ((i : Int) < (s.size : Int)) by omega)]
    exact Ev.now _
  | succ d ih =>
    intro i hi
    apply Ev_succ
    simp only [spec_l01Name.l0, if_pos (show (i : Int) < (s.size : Int) by omega), if_pos (show 0 ≤ (i : Int) by omega), small_eq, digit_eq, Option.bind_some, wr (show -9223372036854775808 ≤ (i : Int) + 1 by omega) (by omega)]
    have h2 := ih (i + 1) (by omega)
    rw [show ((i + 1 : Nat) : Int) = (i : Int) + 1 by omega] at h2
    unfold allFrom nmC
    by_cases h1 : 97 ≤ bt s (i : Int) ∧ bt s (i : Int) ≤ 122
    · simp only [h1, decide_true, Bool.true_or, Bool.true_and, if_true]
      exact h2
    · by_cases h3 : 48 ≤ bt s (i : Int) ∧ bt s (i : Int) ≤ 57
      · simp only [h1, h3, decide_true, decide_false, Bool.or_true, Bool.true_and, if_true, Bool.false_eq_true, if_false]
        exact h2
      · simp only [h1, h3, decide_false, Bool.or_self, Bool.false_and, Bool.false_eq_true, if_false]
        exact Ev.now _
theorem l01Name_eq (s : ByteArray) (hs : s.size ≤ 9223372036854775806) : Ev (fun k => spec_l01Name.f k s) (isNm s) := by
  have hl := l01Name_l0 s hs s.size 0 (by omega)
  have hj : Ev (fun k => spec_l01Name.j0 k s true) false := by
    apply Ev_succ
    simp only [spec_l01Name.j0, if_true]
    exact Ev.now _
  unfold spec_l01Name.f isNm
  by_cases h0 : s.size = 0
  · simp only [if_pos ((toList_nil_iff s).2 h0)]
    simp only [h0]
    simpa using hj
  · simp only [if_neg (fun h => h0 ((toList_nil_iff s).1 h))]
    by_cases h1 : (s.size : Int) > 10
    · simp only [if_pos h1, show ¬ (1 ≤ s.size ∧ s.size ≤ 10) by omega, decide_false, Bool.false_and]
      exact hj
    · simp only [if_neg h1, if_pos (show 0 < (s.size : Int) by omega), small_eq, Option.bind_some, show (1 ≤ s.size ∧ s.size ≤ 10) by omega, decide_true, Bool.true_and]
      apply Ev_succ
      by_cases h2 : 97 ≤ bt s 0 ∧ bt s 0 ≤ 122
      · simp only [spec_l01Name.j0, h2, decide_true, Bool.not_true, Bool.false_eq_true, if_false, and_self, Bool.true_and]
        exact hl
      · simp only [spec_l01Name.j0, h2, decide_false, Bool.not_false, if_true, Bool.false_and]
        exact Ev.now _
theorem only_l0 (s : ByteArray) (hs : s.size ≤ 9223372036854775806) (d : Nat) : ∀ i : Nat, i + d = s.size → Ev (fun k => impl_onlyNameBytes.l0 k s (s.size : Int) (i : Int)) (allFrom nmC s i d) := by
  induction d with
  | zero =>
    intro i hi
    apply Ev_succ
    simp only [impl_onlyNameBytes.l0, if_neg (show ¬ ((i : Int) < (s.size : Int)) by omega)]
    exact Ev.now _
  | succ d ih =>
    intro i hi
    apply Ev_succ
    simp only [impl_onlyNameBytes.l0, if_pos (show (i : Int) < (s.size : Int) by omega), if_pos (show 0 ≤ (i : Int) by omega), wr (show -9223372036854775808 ≤ (i : Int) + 1 by omega) (by omega)]
    have h2 := ih (i + 1) (by omega)
    rw [show ((i + 1 : Nat) : Int) = (i : Int) + 1 by omega] at h2
    unfold allFrom nmC
    generalize bt s (i : Int) = c
    have e1 : ∀ p : Bool, p = true → Ev (fun k => impl_onlyNameBytes.l0 k s (s.size : Int) ((i : Int) + 1)) (p && allFrom nmC s (i + 1) d) := by
      intro p hp
      rw [hp, Bool.true_and]
      exact h2
    have e2 : ∀ p : Bool, p = false → Ev (fun _ => some false) (p && allFrom nmC s (i + 1) d) := by
      intro p hp
      rw [hp, Bool.false_and]
      exact Ev.now _
    refine Ev_ite (fun a => Ev_ite (fun b => e2 _ (by simp; omega)) (fun b => Ev_ite (fun c => e2 _ (by simp; omega)) (fun c => e1 _ (by simp; omega)))) (fun a => Ev_ite (fun b => Ev_ite (fun c => e2 _ (by simp; omega)) (fun c => Ev_ite (fun d => e2 _ (by simp; omega)) (fun d => e1 _ (by simp; omega)))) (fun b => e1 _ (by simp; omega)))
theorem IsName_eq (s : ByteArray) (hs : s.size ≤ 9223372036854775806) : Ev (fun k => impl_IsName.f k s) (isNm s) := by
  have hl := only_l0 s hs s.size 0 (by omega)
  unfold impl_IsName.f isNm
  by_cases h0 : s.size < 1
  · simp only [if_pos (show (s.size : Int) < 1 by omega), show ¬ (1 ≤ s.size ∧ s.size ≤ 10) by omega, decide_false, Bool.false_and]
    exact Ev.now _
  · simp only [if_neg (show ¬ (s.size : Int) < 1 by omega)]
    by_cases h1 : (s.size : Int) > 10
    · simp only [if_pos h1, show ¬ (1 ≤ s.size ∧ s.size ≤ 10) by omega, decide_false, Bool.false_and]
      exact Ev.now _
    · simp only [if_neg h1, if_pos (show 0 < (s.size : Int) by omega), show (1 ≤ s.size ∧ s.size ≤ 10) by omega, decide_true, Bool.true_and]
      by_cases h2 : bt s 0 < 97
      · simp only [if_pos h2, show ¬ (97 ≤ bt s 0 ∧ bt s 0 ≤ 122) by omega, decide_false, Bool.false_and]
        exact Ev.now _
      · simp only [if_neg h2]
        by_cases h3 : bt s 0 > 122
        · simp only [if_pos h3, show ¬ (97 ≤ bt s 0 ∧ bt s 0 ≤ 122) by omega, decide_false, Bool.false_and]
          exact Ev.now _
        · simp only [if_neg h3, show (97 ≤ bt s 0 ∧ bt s 0 ≤ 122) by omega, decide_true, Bool.true_and]
          refine Ev.bind (g := fun k => impl_onlyNameBytes.f k s) (f := fun _ t => some t) ?_ (Ev.now _)
          unfold impl_onlyNameBytes.f
          exact hl
end Go.Proofs.YtnjpjddliaoboaaDoor.Pu
end
section
namespace Go.Proofs.YtnjpjddliaoboaaDoor.Pu
set_option linter.unusedSimpArgs false
set_option linter.unusedVariables false
open Go.RowKit Go.Proofs.YtnjpjddliaoboaaDoorW.PrintWords Go.Proofs.YtnjpjddliaoboaaDoor.PC
theorem bt_mk (l : List UInt8) (i : Nat) (h : i < l.length) : bt ⟨l.toArray⟩ (i : Int) = (l[i].toNat : Int) := by
  have hs : ((i : Int)).toNat < (⟨l.toArray⟩ : ByteArray).size := by rw [Int.toNat_natCast, size_mk]; exact h
  rw [← bt_at _ _ hs]
  rfl
theorem extract_mk (l : List UInt8) (a e : Nat) : (⟨l.toArray⟩ : ByteArray).extract a e = ⟨((l.drop a).take (e - a)).toArray⟩ := by
  apply bytes_ext
  simp [List.extract_eq_take_drop]
theorem l01Number_l0 (l : List UInt8) (hl : l.length ≤ 20) (at_ : Int) (d : Nat) : ∀ (i e n : Nat), i + d = l.length → n < 10 ^ e → e + d ≤ 18 →
    Ev (fun k => spec_l01Number.l0 k ⟨l.toArray⟩ at_ (n : Int) (i : Int)) (if (l.drop i).all isD = true then (if at_ = 1 then -(valD n (l.drop i) : Int) else (valD n (l.drop i) : Int), true) else (0, false)) := by
  induction d with
  | zero =>
    intro i e n hi hn he
    have hp := Nat.pow_le_pow_right (show 0 < 10 by decide) (show e ≤ 18 by omega)
    apply Ev_succ
    simp only [spec_l01Number.l0, size_mk, if_neg (show ¬ ((i : Int) < (l.length : Int)) by omega), List.drop_of_length_le (show l.length ≤ i by omega), List.all_nil, if_true, valD_cons, valD_nil]
    by_cases h : at_ = 1
    · simp only [if_pos h, wr (show -9223372036854775808 ≤ -(n : Int) by omega) (by omega)]
      exact Ev.now _
    · simp only [if_neg h]
      exact Ev.now _
  | succ d ih =>
    intro i e n hi hn he
    have hlt : i < l.length := by omega
    have hp := Nat.pow_le_pow_right (show 0 < 10 by decide) (show e + 1 ≤ 18 by omega)
    rw [Nat.pow_succ] at hp
    rw [List.drop_eq_getElem_cons hlt]
    apply Ev_succ
    simp only [spec_l01Number.l0, size_mk, if_pos (show (i : Int) < (l.length : Int) by omega), if_pos (show (0 : Int) ≤ (i : Int) by omega), bt_mk l i hlt, digit_eq, Option.bind_some]
    by_cases hd : 48 ≤ l[i].toNat ∧ l[i].toNat ≤ 57
    · have hd2 : (48 : Int) ≤ (l[i].toNat : Int) ∧ (l[i].toNat : Int) ≤ 57 := by omega
      have h2 := ih (i + 1) (e + 1) (10 * n + (l[i].toNat - 48)) (by omega) (by rw [Nat.pow_succ]; omega) (by omega)
      rw [List.all_cons, show isD l[i] = true from decide_eq_true hd, Bool.true_and]
      simp only [decide_eq_true hd2, if_true, valD_cons, valD_nil]
      rw [wr (show -9223372036854775808 ≤ 10 * (n : Int) by omega) (by omega), show ((l[i].toNat : Int) - 48) % 256 = (l[i].toNat : Int) - 48 by omega, wr (by omega) (by omega), wr (by omega) (by omega)]
      rw [show ((10 * n + (l[i].toNat - 48) : Nat) : Int) = 10 * (n : Int) + ((l[i].toNat : Int) - 48) by omega, show ((i + 1 : Nat) : Int) = (i : Int) + 1 by omega] at h2
      exact h2
    · have hd2 : ¬ ((48 : Int) ≤ (l[i].toNat : Int) ∧ (l[i].toNat : Int) ≤ 57) := by omega
      rw [List.all_cons, show isD l[i] = false from decide_eq_false hd, Bool.false_and]
      simp only [decide_eq_false hd2, Bool.false_eq_true, if_false]
      exact Ev.now _
theorem l01Number_eq (l : List UInt8) (hl : l.length ≤ 1000000000) : Ev (fun k => spec_l01Number.f k ⟨l.toArray⟩) (numR l) := by
  have j2 : ∀ at_ : Int, Ev (fun k => spec_l01Number.j2 k ⟨l.toArray⟩ at_ true) (0, false) := by
    intro at_
    apply Ev_succ
    simp only [spec_l01Number.j2, if_true]
    exact Ev.now _
  unfold spec_l01Number.f
  cases l with
  | nil =>
    simp only [size_mk, List.length_nil, if_neg (show ¬ ((((0 : Nat)) : Int) > 0) by omega), numR]
    apply Ev_succ
    simp only [spec_l01Number.j0, Bool.false_eq_true, if_false]
    apply Ev_succ
    simp only [spec_l01Number.j1, size_mk, List.length_nil, show (((0 : Nat)) : Int) = 0 from rfl, if_true]
    exact j2 0
  | cons c r =>
    have hlen : (c :: r).length = r.length + 1 := rfl
    have hb0 : bt ⟨(c :: r).toArray⟩ 0 = (c.toNat : Int) := bt_mk (c :: r) 0 (by simp)
    simp only [size_mk, if_pos (show (((c :: r).length : Nat) : Int) > 0 by omega), if_pos (show (0 : Int) < (((c :: r).length : Nat) : Int) by omega), hb0]
    apply Ev_succ
    simp only [numR]
    by_cases hc : c.toNat = 45
    · simp only [spec_l01Number.j0, show ((c.toNat : Int) == 45) = true by simp; omega, if_true, if_pos hc]
      apply Ev_succ
      simp only [spec_l01Number.j1, size_mk]
      by_cases h1 : r = []
      · subst h1
        simp only [List.length_singleton, show (((1 : Nat)) : Int) = 1 from rfl, if_true, true_or]
        exact j2 1
      · have hr : 1 ≤ r.length := List.length_pos_iff.2 h1
        simp only [if_neg (show ¬ ((((c :: r).length : Nat) : Int) = 1) by omega), wr (show -9223372036854775808 ≤ (((c :: r).length : Nat) : Int) - 1 by omega) (by omega), h1, false_or]
        by_cases h2 : 18 < r.length
        · simp only [if_pos (show (((c :: r).length : Nat) : Int) - 1 > 18 by omega), h2, true_or, if_true]
          exact j2 1
        · have hb1 : bt ⟨(c :: r).toArray⟩ 1 = (r[0].toNat : Int) := bt_mk (c :: r) 1 (by omega)
          simp only [if_neg (show ¬ ((((c :: r).length : Nat) : Int) - 1 > 18) by omega), h2, false_or, if_pos (show (0 : Int) ≤ 1 by omega), if_pos (show (1 : Int) < (((c :: r).length : Nat) : Int) by omega), hb1]
          have hh : r.head? = some 48 ↔ r[0].toNat = 48 := by
            rw [List.head?_eq_getElem?, List.getElem?_eq_getElem (by omega), Option.some.injEq]
            exact ⟨fun e => by rw [e]; rfl, fun e => by rw [← UInt8.toNat_inj]; exact e⟩
          by_cases h3 : r[0].toNat = 48
          · simp only [if_pos (show (r[0].toNat : Int) = 48 by omega), if_pos (hh.2 h3), decide_eq_true (show (((c :: r).length : Nat) : Int) > 1 by omega)]
            exact j2 1
          · simp only [if_neg (show ¬ ((r[0].toNat : Int) = 48) by omega), if_neg (fun e => h3 (hh.1 e))]
            apply Ev_succ
            simp only [spec_l01Number.j2, Bool.false_eq_true, if_false]
            have h := l01Number_l0 (c :: r) (by omega) 1 r.length 1 0 0 (by omega) (by decide) (by omega)
            simp only [List.drop_succ_cons, List.drop_zero, if_true] at h
            exact h
    · simp only [spec_l01Number.j0, show ((c.toNat : Int) == 45) = false by simp; omega, Bool.false_eq_true, if_false, if_neg hc]
      apply Ev_succ
      simp only [spec_l01Number.j1, size_mk, if_neg (show ¬ ((((c :: r).length : Nat) : Int) = 0) by omega), wr (show -9223372036854775808 ≤ (((c :: r).length : Nat) : Int) - 0 by omega) (by omega)]
      by_cases h2 : 18 < r.length + 1
      · simp only [if_pos (show (((c :: r).length : Nat) : Int) - 0 > 18 by omega), h2, true_or, if_true]
        exact j2 0
      · simp only [if_neg (show ¬ ((((c :: r).length : Nat) : Int) - 0 > 18) by omega), h2, false_or, if_pos (show (0 : Int) ≤ 0 by omega), if_pos (show (0 : Int) < (((c :: r).length : Nat) : Int) by omega), hb0]
        have hrun : Ev (fun k => spec_l01Number.j2 k ⟨(c :: r).toArray⟩ 0 false) (if (c :: r).all isD = true then ((valD 0 (c :: r) : Int), true) else (0, false)) := by
          apply Ev_succ
          simp only [spec_l01Number.j2, Bool.false_eq_true, if_false]
          have h := l01Number_l0 (c :: r) (by omega) 0 (c :: r).length 0 0 0 (by omega) (by decide) (by omega)
          simp only [List.drop_zero, show ¬ ((0 : Int) = 1) by omega, if_false] at h
          exact h
        by_cases h3 : c.toNat = 48
        · have h4 : c = 48 := by rw [← UInt8.toNat_inj]; exact h3
          simp only [if_pos (show (c.toNat : Int) = 48 by omega)]
          by_cases h5 : r = []
          · have h6 : decide ((((c :: r).length : Nat) : Int) > 1) = false := decide_eq_false (by rw [h5]; simp)
            simp only [h6, if_neg (show ¬ (c = 48 ∧ r ≠ []) from fun e => e.2 h5)]
            exact hrun
          · have hr : 1 ≤ r.length := List.length_pos_iff.2 h5
            simp only [decide_eq_true (show (((c :: r).length : Nat) : Int) > 1 by omega), if_pos (show c = 48 ∧ r ≠ [] from ⟨h4, h5⟩)]
            exact j2 0
        · simp only [if_neg (show ¬ ((c.toNat : Int) = 48) by omega), if_neg (show ¬ (c = 48 ∧ r ≠ []) from fun e => h3 (by rw [e.1]; rfl))]
          exact hrun
def mkB (l : List UInt8) : ByteArray := ⟨l.toArray⟩
theorem l01Split_l0 (l : List UInt8) (hl : l.length ≤ 1000000000) (b : UInt8) (d : Nat) : ∀ (i from_ : Nat) (acc : List ByteArray), i + d = l.length → from_ ≤ i → acc.length + d ≤ 1000000000 →
    Ev (fun k => spec_l01Split.l0 k ⟨l.toArray⟩ (b.toNat : Int) acc (from_ : Int) (i : Int)) (acc ++ (headOn ((l.drop from_).take (i - from_)) (splitB b (l.drop i))).map mkB) := by
  induction d with
  | zero =>
    intro i from_ acc hi hf ha
    apply Ev_succ
    simp only [spec_l01Split.l0, size_mk, if_neg (show ¬ ((i : Int) < (l.length : Int)) by omega), if_pos (show (0 : Int) ≤ (from_ : Int) by omega), if_pos (show (from_ : Int) ≤ (l.length : Int) by omega), if_pos (show acc.length < 8796093022208 by omega), extract_mk, Int.toNat_natCast]
    rw [show l.length = i by omega, List.drop_of_length_le (show l.length ≤ i by omega)]
    simp only [splitB, headOn, List.append_nil, List.map_cons, List.map_nil, mkB]
    exact Ev.now _
  | succ d ih =>
    intro i from_ acc hi hf ha
    have hlt : i < l.length := by omega
    rw [List.drop_eq_getElem_cons hlt]
    apply Ev_succ
    simp only [spec_l01Split.l0, size_mk, if_pos (show (i : Int) < (l.length : Int) by omega), if_pos (show (0 : Int) ≤ (i : Int) by omega), bt_mk l i hlt, wr (show -9223372036854775808 ≤ (i : Int) + 1 by omega) (by omega)]
    by_cases hc : l[i] = b
    · simp only [if_pos (show (l[i].toNat : Int) = (b.toNat : Int) by rw [hc]), if_pos (show (0 : Int) ≤ (from_ : Int) by omega), if_pos (show (from_ : Int) ≤ (i : Int) by omega), if_pos (show (i : Int) ≤ (l.length : Int) by omega), if_pos (show acc.length < 8796093022208 by omega), extract_mk, Int.toNat_natCast]
      have h2 := ih (i + 1) (i + 1) (acc ++ [(⟨((l.drop from_).take (i - from_)).toArray⟩ : ByteArray)]) (by omega) (by omega) (by rw [List.length_append, List.length_singleton]; omega)
      rw [Nat.sub_self, List.take_zero, headOn_nil (splitB_ne b _), show ((i + 1 : Nat) : Int) = (i : Int) + 1 by omega, List.append_assoc] at h2
      rw [splitB, if_pos hc]
      simp only [headOn, List.append_nil, List.map_cons]
      exact h2
    · simp only [if_neg (show ¬ ((l[i].toNat : Int) = (b.toNat : Int)) from fun e => hc (by rw [← UInt8.toNat_inj]; omega))]
      have h2 := ih (i + 1) from_ acc (by omega) (by omega) (by omega)
      rw [show ((i + 1 : Nat) : Int) = (i : Int) + 1 by omega] at h2
      rw [splitB, if_neg hc, headOn_headOn]
      have e : (l.drop from_).take (i + 1 - from_) = (l.drop from_).take (i - from_) ++ [l[i]] := by
        rw [show i + 1 - from_ = (i - from_) + 1 by omega, List.take_succ_eq_append_getElem (by rw [List.length_drop]; omega), List.getElem_drop]
        congr 3
        omega
      rwa [e] at h2
theorem l01Split_eq (l : List UInt8) (hl : l.length ≤ 1000000000) (b : UInt8) : Ev (fun k => spec_l01Split.f k ⟨l.toArray⟩ (b.toNat : Int)) ((splitB b l).map mkB) := by
  have h := l01Split_l0 l hl b l.length 0 0 [] (by omega) (by omega) (by simp; omega)
  rw [List.nil_append, Nat.sub_self, List.take_zero, List.drop_zero, headOn_nil (splitB_ne b l)] at h
  exact h
theorem allFrom_get (p : Int → Bool) (s : ByteArray) (d : Nat) : ∀ i, allFrom p s i d = true → ∀ j, i ≤ j → j < i + d → p (bt s (j : Int)) = true := by
  induction d with
  | zero => intro i _ j h1 h2; omega
  | succ d ih =>
    intro i h j h1 h2
    unfold allFrom at h
    rw [Bool.and_eq_true] at h
    by_cases e : j = i
    · subst e
      exact h.1
    · exact ih (i + 1) h.2 j (by omega) (by omega)
theorem nm_bytes (nm : List UInt8) (h : isNm ⟨nm.toArray⟩ = true) : nm.length ≤ 10 ∧ ∀ c ∈ nm, (97 ≤ c.toNat ∧ c.toNat ≤ 122) ∨ (48 ≤ c.toNat ∧ c.toNat ≤ 57) := by
  unfold isNm at h
  rw [Bool.and_eq_true, Bool.and_eq_true, decide_eq_true_eq, size_mk] at h
  refine ⟨h.1.2, fun c hc => ?_⟩
  obtain ⟨j, hj, rfl⟩ := List.mem_iff_getElem.1 hc
  have h2 := allFrom_get nmC _ nm.length 0 h.2.2 j (by omega) (by omega)
  rw [bt_mk nm j hj] at h2
  unfold nmC at h2
  rw [Bool.or_eq_true, decide_eq_true_eq, decide_eq_true_eq] at h2
  omega
theorem cut_len (s sep : List UInt8) : (Lib.cut s sep).1.length ≤ s.length ∧ (Lib.cut s sep).2.1.length ≤ s.length := by
  unfold Lib.cut
  split
  · simp only [List.length_take, List.length_drop]
    omega
  · simp
end Go.Proofs.YtnjpjddliaoboaaDoor.Pu
end
section
namespace Go.Proofs.YtnjpjddliaoboaaDoor.Pu
set_option linter.unusedSimpArgs false
set_option linter.unusedVariables false
open Go.RowKit Go.Proofs.YtnjpjddliaoboaaDoorW.PrintWords Go.Proofs.YtnjpjddliaoboaaDoor.PC
structure IsTurn (nm : List UInt8) (a b : Int) : Prop where
  name : isNm ⟨nm.toArray⟩ = true
  a0 : 0 ≤ a
  a1 : a ≤ 10000
  b0 : 1 ≤ b
  b1 : b ≤ 10000
def restT (a b : Int) : List UInt8 := Lib.itoa a ++ 43 :: Lib.itoa b
def turnT (nm : List UInt8) (a b : Int) : List UInt8 := nm ++ 32 :: restT a b
theorem itoa_not (n : Int) (h : 0 ≤ n) (c : UInt8) (hc : c.toNat < 48) : c ∉ Lib.itoa n := by
  rw [itoa_nat n h]
  intro hm
  have := dec_digits n.toNat c hm
  omega
theorem IsTurn.no32 {nm : List UInt8} {a b : Int} (t : IsTurn nm a b) : (32 : UInt8) ∉ nm ∧ (32 : UInt8) ∉ restT a b ∧ (43 : UInt8) ∉ Lib.itoa a ∧ (43 : UInt8) ∉ Lib.itoa b := by
  have h32 : (32 : UInt8).toNat = 32 := rfl
  have h43 : (43 : UInt8).toNat = 43 := rfl
  have a0 := t.a0
  have b0 := t.b0
  refine ⟨fun h => ?_, ?_, itoa_not a a0 43 (by omega), itoa_not b (by omega) 43 (by omega)⟩
  · have := (nm_bytes nm t.name).2 _ h
    omega
  · unfold restT
    rw [List.mem_append, List.mem_cons]
    rintro (h | h | h)
    · exact itoa_not a a0 32 (by omega) h
    · exact absurd h (by decide)
    · exact itoa_not b (by omega) 32 (by omega) h
theorem l23One_eq (nm : ByteArray) (a b : Int) (hs : nm.size ≤ 1000000000) : Ev (fun k => spec_l23One.f k [(⟨nm, a, b⟩ : S39)]) (isNm nm && (decide (0 ≤ a ∧ a ≤ 10000) && decide (1 ≤ b ∧ b ≤ 10000))) := by
  have e0 : rd_T39 [(⟨nm, a, b⟩ : S39)] 0 = ⟨nm, a, b⟩ := rfl
  have e1 : (0 : Int) < (([(⟨nm, a, b⟩ : S39)]).length : Int) := by simp
  unfold spec_l23One.f
  simp only [if_pos e1, e0, l00In_eq, Option.bind_some]
  refine Ev.bind (l01Name_eq nm (by omega)) ?_
  cases isNm nm with
  | false => simp only [Bool.false_eq_true, if_false, Bool.false_and]; exact Ev.now _
  | true =>
    by_cases h : 0 ≤ a ∧ a ≤ 10000
    · simp only [decide_eq_true h, if_true, Bool.true_and]; exact Ev.now _
    · simp only [decide_eq_false h, Bool.false_eq_true, if_false, if_true, Bool.true_and, Bool.false_and]; exact Ev.now _
theorem Turn_valid_eq (nm : ByteArray) (a b : Int) (hs : nm.size ≤ 1000000000) : Ev (fun k => impl_Turn_valid.f k nm a b) (isNm nm && (decide (0 ≤ a ∧ a ≤ 10000) && decide (1 ≤ b ∧ b ≤ 10000))) := by
  unfold impl_Turn_valid.f
  simp only [within_eq, Option.bind_some]
  refine Ev.bind (IsName_eq nm (by omega)) ?_
  cases isNm nm with
  | false => simp only [Bool.false_eq_true, if_false, Bool.false_and]; exact Ev.now _
  | true =>
    by_cases h : 0 ≤ a ∧ a ≤ 10000
    · simp only [decide_eq_true h, if_true, Bool.true_and]; exact Ev.now _
    · simp only [decide_eq_false h, Bool.false_eq_true, if_false, if_true, Bool.true_and, Bool.false_and]; exact Ev.now _
theorem TurnText_eq (nm : List UInt8) (a b : Int) (hs : nm.length ≤ 1000000000) : Ev (fun k => impl_TurnText.f k ⟨nm.toArray⟩ a b) ⟨(if (isNm ⟨nm.toArray⟩ && (decide (0 ≤ a ∧ a ≤ 10000) && decide (1 ≤ b ∧ b ≤ 10000))) = true then turnT nm a b else []).toArray⟩ := by
  unfold impl_TurnText.f
  refine Ev.bind (Turn_valid_eq ⟨nm.toArray⟩ a b (by rw [size_mk]; exact hs)) ?_
  cases hv : (isNm ⟨nm.toArray⟩ && (decide (0 ≤ a ∧ a ≤ 10000) && decide (1 ≤ b ∧ b ≤ 10000))) with
  | false => simp only [Bool.false_eq_true, if_false]; exact Ev.now _
  | true =>
    rw [Bool.and_eq_true, Bool.and_eq_true, decide_eq_true_eq, decide_eq_true_eq] at hv
    obtain ⟨_, h1, h2⟩ := hv
    have l1 := itoa_length a (by omega) (by omega)
    have l2 := itoa_length b (by omega) (by omega)
    have e1 : (⟨nm.toArray⟩ : ByteArray) ++ ⟨#[32]⟩ = ⟨(nm ++ [32]).toArray⟩ := app_mk nm [32]
    have e2 : (⟨(nm ++ [32] ++ Lib.itoa a).toArray⟩ : ByteArray) ++ ⟨#[43]⟩ = ⟨(nm ++ [32] ++ Lib.itoa a ++ [43]).toArray⟩ := app_mk _ [43]
    simp only [if_true, size_mk, if_pos (show nm.length + 1 ≤ 9223372036854775807 by omega), Decimal_eq a (by omega) (by omega), Decimal_eq b (by omega) (by omega), Option.bind_some, e1, app_mk, e2, List.length_append, List.length_singleton,
      if_pos (show nm.length + 1 + (Lib.itoa a).length ≤ 9223372036854775807 by omega), if_pos (show nm.length + 1 + (Lib.itoa a).length + 1 ≤ 9223372036854775807 by omega), if_pos (show nm.length + 1 + (Lib.itoa a).length + 1 + (Lib.itoa b).length ≤ 9223372036854775807 by omega)]
    have e3 : nm ++ [32] ++ Lib.itoa a ++ [43] ++ Lib.itoa b = turnT nm a b := by simp [turnT, restT]
    rw [e3]
    exact Ev.now _
theorem readDec_itoa (n : Int) (h0 : 0 ≤ n) (h1 : n ≤ 10000) : readDecB ⟨(Lib.itoa n).toArray⟩ = (n, true) := by
  have e : (⟨(Lib.itoa n).toArray⟩ : ByteArray).data.toList = Lib.itoa n := by simp
  have hl := decDigits_lt 9 n.toNat (by omega)
  unfold readDecB
  rw [e]
  have hp := parseIntB_dec n.toNat (by omega)
  rw [itoa_nat n h0] at *
  rw [hp]
  have ht : (Lib.trimPrefix (Lib.decDigits n.toNat) [45]).length ≤ 18 := by
    unfold Lib.trimPrefix
    split
    · rw [List.length_drop]; omega
    · omega
  simp only
  rw [if_neg (by omega), Int.toNat_of_nonneg h0, itoa_nat n h0, if_pos rfl]
theorem readDec_nil : (readDecB ⟨#[]⟩).2 = false := by
  unfold readDecB
  rw [show Lib.parseIntB 64 (⟨#[]⟩ : ByteArray).data.toList = Lib.NumEnd.syntax from rfl]
theorem ReadDecimal_eq (l : List UInt8) (h : l.length ≤ 1000000000) : impl_ReadDecimal.f ⟨l.toArray⟩ = some (readDecB ⟨l.toArray⟩) := by
  unfold impl_ReadDecimal.f
  rw [if_pos (by rw [size_mk]; omega)]
def ReadT (l : List UInt8) (r : ByteArray × Int × Int × Bool) : Prop :=
  (∀ nm a b, IsTurn nm a b → l = turnT nm a b → r = (⟨nm.toArray⟩, a, b, true)) ∧ ((∀ nm a b, IsTurn nm a b → l ≠ turnT nm a b) → r = (⟨#[]⟩, 0, 0, false))
theorem mk_toList (l : List UInt8) : (⟨l.toArray⟩ : ByteArray).toList = l := by
  rw [toList_data]
theorem sReadTurn_eq (l : List UInt8) (hl : l.length ≤ 1048576) : ∃ r, Ev (fun k => spec_ReadTurn.f k ⟨l.toArray⟩) r ∧ ReadT l r := by
  have hz : ∀ g : Nat → Option (ByteArray × Int × Int × Bool), Ev g (⟨#[]⟩, 0, 0, false) → (∀ nm a b, IsTurn nm a b → l ≠ turnT nm a b) → ∃ r, Ev g r ∧ ReadT l r := fun g h hn => ⟨_, h, fun nm a b ht he => absurd he (hn nm a b ht), fun _ => rfl⟩
  have hsp := l01Split_eq l (by omega) 32
  unfold spec_ReadTurn.f
  have hnot : ∀ (x y : List UInt8), splitB 32 l = [x, y] → ∀ nm a b, IsTurn nm a b → l = turnT nm a b → x = nm ∧ y = restT a b := by
    intro x y h nm a b ht he
    have h2 := splitB_two 32 nm (restT a b) ht.no32.1 ht.no32.2.1
    rw [he, show turnT nm a b = nm ++ 32 :: restT a b from rfl, h2] at h
    simp only [List.cons.injEq, and_true] at h
    exact ⟨h.1.symm, h.2.symm⟩
  by_cases h2 : ((splitB 32 l).map mkB).length = 2
  · obtain ⟨x, y, hxy⟩ : ∃ x y, splitB 32 l = [x, y] := by
      rw [List.length_map] at h2
      match hh : splitB 32 l, h2 with
      | [x, y], _ => exact ⟨x, y, rfl⟩
    obtain ⟨hl1, hx32, hy32⟩ := splitB_pair 32 l x y hxy
    have hxl : x.length ≤ 1048576 ∧ y.length ≤ 1048576 := by
      have := congrArg List.length hl1
      rw [List.length_append, List.length_cons] at this
      omega
    rw [hxy] at hsp
    have hsp2 := l01Split_eq y (by omega) 43
    have er1 : rdOf ByteArray.empty (([x, y] : List (List UInt8)).map mkB) 1 = ⟨y.toArray⟩ := rfl
    have er0 : rdOf ByteArray.empty (([x, y] : List (List UInt8)).map mkB) 0 = ⟨x.toArray⟩ := rfl
    have el : (((([x, y] : List (List UInt8)).map mkB).length : Nat) : Int) = 2 := rfl
    by_cases h3 : ((splitB 43 y).map mkB).length = 2
    · obtain ⟨u, v, huv⟩ : ∃ u v, splitB 43 y = [u, v] := by
        rw [List.length_map] at h3
        match hh : splitB 43 y, h3 with
        | [u, v], _ => exact ⟨u, v, rfl⟩
      obtain ⟨hl2, hu, hv⟩ := splitB_pair 43 y u v huv
      have hul : u.length ≤ 1048576 ∧ v.length ≤ 1048576 := by
        have := congrArg List.length hl2
        rw [List.length_append, List.length_cons] at this
        omega
      rw [huv] at hsp2
      have es1 : rdOf ByteArray.empty (([u, v] : List (List UInt8)).map mkB) 1 = ⟨v.toArray⟩ := rfl
      have es0 : rdOf ByteArray.empty (([u, v] : List (List UInt8)).map mkB) 0 = ⟨u.toArray⟩ := rfl
      have esl : (((([u, v] : List (List UInt8)).map mkB).length : Nat) : Int) = 2 := rfl
      have hn1 := l01Number_eq u (by omega)
      have hn2 := l01Number_eq v (by omega)
      have hfit : ∀ nm a b, IsTurn nm a b → l = turnT nm a b → x = nm ∧ u = Lib.itoa a ∧ v = Lib.itoa b := by
        intro nm a b ht he
        obtain ⟨e1, e2⟩ := hnot x y hxy nm a b ht he
        have h4 := splitB_two 43 (Lib.itoa a) (Lib.itoa b) ht.no32.2.2.1 ht.no32.2.2.2
        rw [e2, show restT a b = Lib.itoa a ++ 43 :: Lib.itoa b from rfl, h4] at huv
        simp only [List.cons.injEq, and_true] at huv
        exact ⟨e1, huv.1.symm, huv.2.symm⟩
      have hone := l23One_eq ⟨x.toArray⟩ (numR u).1 (numR v).1 (by rw [size_mk]; omega)
      have hres : ∀ (p q : Int × Bool), numR u = p → numR v = q → ∃ r, Ev (fun k => if p.2 = true then (if q.2 = true then ((spec_l23One.f k [(⟨⟨x.toArray⟩, p.1, q.1⟩ : S39)]).bind fun t136 => (if t136 = true then (some ((⟨x.toArray⟩ : ByteArray), p.1, q.1, true)) else (some ((⟨#[]⟩ : ByteArray), 0, 0, false)))) else (some ((⟨#[]⟩ : ByteArray), 0, 0, false))) else (some ((⟨#[]⟩ : ByteArray), 0, 0, false))) r ∧ ReadT l r := by
        rintro ⟨n, b1⟩ ⟨m, b2⟩ hp hq
        cases b1 with
        | false =>
          simp only [Bool.false_eq_true, if_false]
          refine hz _ (Ev.now _) (fun nm a b ht he => ?_)
          obtain ⟨_, e2, _⟩ := hfit nm a b ht he
          rw [e2, numR_itoa a ht.a0 (by have := ht.a1; omega)] at hp
          exact absurd hp (by simp)
        | true =>
          cases b2 with
          | false =>
            simp only [Bool.false_eq_true, if_false, if_true]
            refine hz _ (Ev.now _) (fun nm a b ht he => ?_)
            obtain ⟨_, _, e3⟩ := hfit nm a b ht he
            rw [e3, numR_itoa b (by have := ht.b0; omega) (by have := ht.b1; omega)] at hq
            exact absurd hq (by simp)
          | true =>
            rw [hp, hq] at hone
            simp only [if_true]
            cases hv1 : (isNm ⟨x.toArray⟩ && (decide (0 ≤ n ∧ n ≤ 10000) && decide (1 ≤ m ∧ m ≤ 10000))) with
            | false =>
              rw [hv1] at hone
              refine hz _ (Ev.bind hone (by simp only [Bool.false_eq_true, if_false]; exact Ev.now _)) (fun nm a b ht he => ?_)
              obtain ⟨e1, e2, e3⟩ := hfit nm a b ht he
              rw [e2, numR_itoa a ht.a0 (by have := ht.a1; omega)] at hp
              rw [e3, numR_itoa b (by have := ht.b0; omega) (by have := ht.b1; omega)] at hq
              injection hp with hp _
              injection hq with hq _
              rw [e1, ht.name, Bool.true_and, ← hp, ← hq, decide_eq_true (show 0 ≤ a ∧ a ≤ 10000 from ⟨ht.a0, ht.a1⟩), decide_eq_true (show 1 ≤ b ∧ b ≤ 10000 from ⟨ht.b0, ht.b1⟩)] at hv1
              exact absurd hv1 (by decide)
            | true =>
              rw [hv1] at hone
              rw [Bool.and_eq_true, Bool.and_eq_true, decide_eq_true_eq, decide_eq_true_eq] at hv1
              obtain ⟨w1, w2, w3⟩ := hv1
              have ht : IsTurn x n m := ⟨w1, w2.1, w2.2, w3.1, w3.2⟩
              have he : l = turnT x n m := by
                rw [hl1, hl2, numR_true u n hp w2.1, numR_true v m hq (by omega)]
                rfl
              refine ⟨(⟨x.toArray⟩, n, m, true), Ev.bind hone (by simp only [if_true]; exact Ev.now _), fun nm a b ht2 he2 => ?_, fun hno => absurd he (hno x n m ht)⟩
              obtain ⟨e1, e2, e3⟩ := hfit nm a b ht2 he2
              rw [e2, numR_itoa a ht2.a0 (by have := ht2.a1; omega)] at hp
              rw [e3, numR_itoa b (by have := ht2.b0; omega) (by have := ht2.b1; omega)] at hq
              injection hp with hp _
              injection hq with hq _
              rw [e1, hp, hq]
      obtain ⟨r, hr, hR⟩ := hres _ _ rfl rfl
      refine ⟨r, Ev.bind hsp ?_, hR⟩
      simp only [el, if_true, if_pos (show (1 : Int) < 2 by omega), if_pos (show (0 : Int) < 2 by omega), er1, er0]
      refine Ev.bind hsp2 ?_
      simp only [esl, if_true, if_pos (show (1 : Int) < 2 by omega), if_pos (show (0 : Int) < 2 by omega), es1, es0]
      refine Ev.bind hn1 ?_
      refine Ev.bind hn2 ?_
      exact hr
    · refine hz _ (Ev.bind hsp ?_) (fun nm a b ht he => ?_)
      · simp only [el, if_true, if_pos (show (1 : Int) < 2 by omega), if_pos (show (0 : Int) < 2 by omega), er1]
        refine Ev.bind hsp2 ?_
        simp only [if_neg (show ¬ (((((splitB 43 y).map mkB).length : Nat) : Int) = 2) by omega)]
        exact Ev.now _
      · obtain ⟨e1, e2⟩ := hnot x y hxy nm a b ht he
        have h4 := splitB_two 43 (Lib.itoa a) (Lib.itoa b) ht.no32.2.2.1 ht.no32.2.2.2
        rw [e2, show restT a b = Lib.itoa a ++ 43 :: Lib.itoa b from rfl, h4] at h3
        exact h3 rfl
  · refine hz _ (Ev.bind hsp ?_) (fun nm a b ht he => ?_)
    · simp only [if_neg (show ¬ (((((splitB 32 l).map mkB).length : Nat) : Int) = 2) by omega)]
      exact Ev.now _
    · have h4 := splitB_two 32 nm (restT a b) ht.no32.1 ht.no32.2.1
      rw [he, show turnT nm a b = nm ++ 32 :: restT a b from rfl, h4] at h2
      exact h2 rfl
theorem iReadTurn_eq (l : List UInt8) (hl : l.length ≤ 1048576) : ∃ r, Ev (fun k => impl_ReadTurn.f k ⟨l.toArray⟩) r ∧ ReadT l r := by
  have hz : ∀ g : Nat → Option (ByteArray × Int × Int × Bool), Ev g (⟨#[]⟩, 0, 0, false) → (∀ nm a b, IsTurn nm a b → l ≠ turnT nm a b) → ∃ r, Ev g r ∧ ReadT l r := fun g h hn => ⟨_, h, fun nm a b ht he => absurd he (hn nm a b ht), fun _ => rfl⟩
  have c1 := cut_len l [32]
  have c2 := cut_len (Lib.cut l [32]).2.1 [43]
  have d1 : ∀ x : List UInt8, (⟨x.toArray⟩ : ByteArray).data.toList = x := fun x => by simp
  have s1 : strings_Cut.f ⟨l.toArray⟩ ⟨#[32]⟩ = some (⟨(Lib.cut l [32]).1.toArray⟩, ⟨(Lib.cut l [32]).2.1.toArray⟩, (Lib.cut l [32]).2.2) := by
    unfold strings_Cut.f
    rw [if_pos (by rw [size_mk]; omega), d1]
  have s2 : strings_Cut.f ⟨(Lib.cut l [32]).2.1.toArray⟩ ⟨#[43]⟩ = some (⟨(Lib.cut (Lib.cut l [32]).2.1 [43]).1.toArray⟩, ⟨(Lib.cut (Lib.cut l [32]).2.1 [43]).2.1.toArray⟩, (Lib.cut (Lib.cut l [32]).2.1 [43]).2.2) := by
    unfold strings_Cut.f
    rw [if_pos (by rw [size_mk]; omega), d1]
  have hfit : ∀ nm a b, IsTurn nm a b → l = turnT nm a b → (Lib.cut l [32]).1 = nm ∧ (Lib.cut (Lib.cut l [32]).2.1 [43]).1 = Lib.itoa a ∧ (Lib.cut (Lib.cut l [32]).2.1 [43]).2.1 = Lib.itoa b := by
    intro nm a b ht he
    have h1 : Lib.cut l [32] = (nm, restT a b, true) := by
      rw [he]
      exact cut_byte 32 nm (restT a b) ht.no32.1
    have h2 : Lib.cut (restT a b) [43] = (Lib.itoa a, Lib.itoa b, true) := cut_byte 43 (Lib.itoa a) (Lib.itoa b) ht.no32.2.2.1
    rw [h1]
    simp only [h2]
    exact ⟨trivial, trivial, trivial⟩
  have hempty : l = [] → (readDecB ⟨(Lib.cut (Lib.cut l [32]).2.1 [43]).1.toArray⟩).2 = false := by
    rintro rfl
    exact readDec_nil
  unfold impl_ReadTurn.f
  simp only [s1, s2, Option.bind_some]
  generalize (Lib.cut l [32]).1 = x at *
  generalize (Lib.cut (Lib.cut l [32]).2.1 [43]).1 = u at *
  generalize (Lib.cut (Lib.cut l [32]).2.1 [43]).2.1 = v at *
  simp only [ReadDecimal_eq u (by omega), ReadDecimal_eq v (by omega), Option.bind_some]
  obtain ⟨⟨n, b1⟩, hp⟩ : ∃ p, readDecB ⟨u.toArray⟩ = p := ⟨_, rfl⟩
  obtain ⟨⟨m, b2⟩, hq⟩ : ∃ q, readDecB ⟨v.toArray⟩ = q := ⟨_, rfl⟩
  rw [hp] at hempty
  simp only [hp, hq]
  cases b1 with
  | false =>
    simp only [Bool.false_eq_true, if_false]
    refine hz _ (Ev.now _) (fun nm a b ht he => ?_)
    obtain ⟨_, e2, _⟩ := hfit nm a b ht he
    rw [e2, readDec_itoa a ht.a0 ht.a1] at hp
    exact absurd hp (by simp)
  | true =>
    cases b2 with
    | false =>
      simp only [Bool.false_eq_true, if_false, if_true]
      refine hz _ (Ev.now _) (fun nm a b ht he => ?_)
      obtain ⟨_, _, e3⟩ := hfit nm a b ht he
      rw [e3, readDec_itoa b (by have := ht.b0; omega) ht.b1] at hq
      exact absurd hq (by simp)
    | true =>
      simp only [if_true]
      have htx := TurnText_eq x n m (by omega)
      by_cases hv : (isNm ⟨x.toArray⟩ && (decide (0 ≤ n ∧ n ≤ 10000) && decide (1 ≤ m ∧ m ≤ 10000))) = true
      · rw [if_pos hv] at htx
        rw [Bool.and_eq_true, Bool.and_eq_true, decide_eq_true_eq, decide_eq_true_eq] at hv
        obtain ⟨w1, w2, w3⟩ := hv
        have ht : IsTurn x n m := ⟨w1, w2.1, w2.2, w3.1, w3.2⟩
        by_cases he : turnT x n m = l
        · refine ⟨(⟨x.toArray⟩, n, m, true), Ev.bind htx (by simp only [mk_toList, if_pos he]; exact Ev.now _), fun nm a b ht2 he2 => ?_, fun hno => absurd he.symm (hno x n m ht)⟩
          obtain ⟨e1, e2, e3⟩ := hfit nm a b ht2 he2
          rw [e2, readDec_itoa a ht2.a0 ht2.a1] at hp
          rw [e3, readDec_itoa b (by have := ht2.b0; omega) ht2.b1] at hq
          injection hp with hp _
          injection hq with hq _
          rw [e1, hp, hq]
        · refine hz _ (Ev.bind htx (by simp only [mk_toList, if_neg he]; exact Ev.now _)) (fun nm a b ht2 he2 => ?_)
          obtain ⟨e1, e2, e3⟩ := hfit nm a b ht2 he2
          rw [e2, readDec_itoa a ht2.a0 ht2.a1] at hp
          rw [e3, readDec_itoa b (by have := ht2.b0; omega) ht2.b1] at hq
          injection hp with hp _
          injection hq with hq _
          rw [e1, ← hp, ← hq] at he
          exact he he2.symm
      · rw [if_neg hv] at htx
        by_cases he : l = []
        · exact absurd (hempty he) (by simp)
        · refine hz _ (Ev.bind htx (by simp only [mk_toList, if_neg (fun e : [] = l => he e.symm)]; exact Ev.now _)) (fun nm a b ht2 he2 => ?_)
          obtain ⟨e1, e2, e3⟩ := hfit nm a b ht2 he2
          rw [e2, readDec_itoa a ht2.a0 ht2.a1] at hp
          rw [e3, readDec_itoa b (by have := ht2.b0; omega) ht2.b1] at hq
          injection hp with hp _
          injection hq with hq _
          rw [e1, ← hp, ← hq, ht2.name, Bool.true_and, decide_eq_true (show 0 ≤ a ∧ a ≤ 10000 from ⟨ht2.a0, ht2.a1⟩), decide_eq_true (show 1 ≤ b ∧ b ≤ 10000 from ⟨ht2.b0, ht2.b1⟩)] at hv
          exact hv rfl
theorem ReadT_uniq {l : List UInt8} {r r' : ByteArray × Int × Int × Bool} (h : ReadT l r) (h' : ReadT l r') : r = r' := by
  by_cases hc : ∃ nm a b, IsTurn nm a b ∧ l = turnT nm a b
  · obtain ⟨nm, a, b, ht, he⟩ := hc
    rw [h.1 nm a b ht he, h'.1 nm a b ht he]
  · have hn : ∀ nm a b, IsTurn nm a b → l ≠ turnT nm a b := fun nm a b ht he => hc ⟨nm, a, b, ht, he⟩
    rw [h.2 hn, h'.2 hn]
theorem lawW (s : ByteArray) (hs : s.size ≤ 9223372036854775807) : ∃ n, laws_FnExactReadTurn.f n s = some true := by
  have hz : Ev (fun n => laws_FnExactReadTurn.f n s) true := by
    unfold laws_FnExactReadTurn.f
    by_cases h1 : (s.size : Int) > 1048576
    · simp only [if_pos h1]
      exact Ev.now _
    · simp only [if_neg h1]
      have es : s = ⟨s.data.toList.toArray⟩ := by cases s; simp
      have hl : s.data.toList.length ≤ 1048576 := by rw [← size_toList]; omega
      rw [es]
      obtain ⟨r, hr, hR⟩ := sReadTurn_eq s.data.toList hl
      obtain ⟨r', hr', hR'⟩ := iReadTurn_eq s.data.toList hl
      obtain rfl := ReadT_uniq hR hR'
      refine Ev.bind hr ?_
      refine Ev.bind hr' ?_
      simp only [laws_eqTurn.f, if_true, Option.bind_some, bne_self_eq_false, Bool.false_eq_true, if_false]
      exact Ev.now _
  exact hz.rounds
end Go.Proofs.YtnjpjddliaoboaaDoor.Pu
end
section
namespace Go.Proofs.YtnjpjddliaoboaaDoor.fnExactReadTurn
open Go.ChangeShapes Go.WideShapes Go.ChangeAt Go.RowKit Go.Proofs.YtnjpjddliaoboaaDoorY Go.Proofs.YtnjpjddliaoboaaDoorW.PrintWords Go.Proofs.YtnjpjddliaoboaaDoor.PC
open Go.ChangeMaps (open_string shut_string)
set_option linter.unusedVariables false
theorem own : ownKnob Tryd.prog.godebug = none := by kernel_rfl
theorem laidOut : laidOutB Tryd.prog = true := by kernel_rfl
def laid : List (String × DataW Unit) := [("math/bits.deBruijn32tab", Rows.laid_math_bits_deBruijn32tab), ("math/bits.deBruijn64tab", Rows.laid_math_bits_deBruijn64tab), ("internal/strconv.uint64pow10", Rows.laid_internal_strconv_uint64pow10), ("strconv.ErrRange", Rows.laid_strconv_ErrRange), ("strconv.ErrSyntax", Rows.laid_strconv_ErrSyntax)]
theorem door_met (os : Os) (args : Array Value) : laidMetH Tryd.prog laid ((World.doorLaid Tryd.prog 400 os).forCall (fun _ _ => 0) ⟨#[], args, []⟩).memory :=
  laidMetH_of_parts3 (fuel := 8) (laidMet_of_run' 8 (by kernel_rfl) (by kernel_rfl)) (by kernel_rfl) (by kernel_rfl)
theorem lv_of {W : World} (h : laidMetH Tryd.prog laid W) (hs : W.ShapedOpen Tryd.prog) : Lv W :=
  ⟨tab_laid (zs := Lib.pow10Tab) (n := 20) (by rw [show (Lib.tabData .u64 Lib.pow10Tab : DataW Unit) = Rows.laid_internal_strconv_uint64pow10 by kernel_rfl]; simp [laid]) (show Tryd.prog.globalNamed "internal/strconv.uint64pow10" = some 1 by kernel_rfl) (by kernel_rfl) Tryd.underlying108 Tryd.underlying90 (by kernel_rfl) (by kernel_rfl) h (by kernel_rfl), cell_of_shapedOpen_int (g := 0) (t := 3) (zero := #[.int .i64 0]) hs (of_decide_eq_true (by kernel_rfl)) (by kernel_rfl) rfl (by kernel_rfl) (by kernel_rfl) Tryd.underlying3, iface_laid (name := "strconv.ErrSyntax") (.tail _ (.tail _ (.tail _ (.tail _ (.head _))))) (show Tryd.prog.globalNamed "strconv.ErrSyntax" = some 2 by kernel_rfl) (by kernel_rfl) Tryd.underlying72 h (by kernel_rfl), iface_laid (name := "strconv.ErrRange") (.tail _ (.tail _ (.tail _ (.head _)))) (show Tryd.prog.globalNamed "strconv.ErrRange" = some 3 by kernel_rfl) (by kernel_rfl) Tryd.underlying72 h (by kernel_rfl)⟩
set_option maxRecDepth 100000 in
theorem lifted (os : Os) (started : os.Started) (H : Type) (enc : TypeId × Value → H) :
    ReturnsInHanded {} Tryd.checked os 5 .any (fun w args => (Rows.fnExactReadTurnSpec.pre enc Tryd.prog Tryd.f5 [] false w args ∧ laidMetH Tryd.prog laid w) ∧ sizedMet enc Tryd.prog Tryd.f5 (OpenSpec.ofChange Rows.fnExactReadTurnSpec) false w args)
      (Rows.fnExactReadTurnSpec.post enc Tryd.prog Tryd.f5 false true false false) := by
  refine handed_shaped (C := Tryd.checked) (X := fun w _ => laidMetH Tryd.prog laid w) (fun _ _ _ hh h => h.of_heap hh) own started (by kernel_rfl) Tryd.func5
    (ChangeSpec.witness_shaped (enc := enc) (C := Tryd.checked) (os := os) (X := fun w _ => laidMetH Tryd.prog laid w) false (World.doorLaid Tryd.prog 400 os) #[.string ⟨#[]⟩] 8 rfl (World.shaped_of_RefB (by kernel_rfl) (by kernel_rfl)) (by kernel_rfl) (by kernel_rfl) (by kernel_rfl) (door_met os _)) ?_
  intro W base args ds gs before hval0 hW _ hsz0 hL hSh _
  have hval : ∀ (j : Nat) t v, Tryd.f5.params[j]? = some t → args[j]? = some v → Value.okWide Tryd.prog W .any base t v := hval0
  have hW' := hW
  obtain ⟨p, q, hA0, hV, rfl, hfz, hnd⟩ := hW
  have hA : DataW.TrodAll enc Tryd.prog W 0 (fun _ => true) true Tryd.f5.params.toList args.toList ds p := hA0
  rw [Tryd.params5] at hA hval
  obtain ⟨v0, vs0, d0, ds0, p0, q0, hargs, rfl, rfl, h0, r0⟩ := trodAll_cons hA
  obtain ⟨rfl, rfl, rfl⟩ := trodAll_nil r0
  obtain rfl : args = #[v0] := by cases args; simp_all
  obtain ⟨rfl, rfl⟩ := trodVars_none hV
  have k0 := h0
  have lt0 : ∀ x ∈ p0, x.block < W.heap.size := by obtain ⟨m, hm⟩ := k0; exact DataW.trod_lt m _ _ _ hm
  obtain ⟨y0, rfl, rfl, rfl, w0⟩ := open_string Tryd.underlying9 (hval 0 9 v0 rfl rfl) h0
  have hLv := lv_of hL hSh
  clear hA0 hval0 hsz0
  obtain ⟨k, hk⟩ := Pu.lawW y0 w0
  refine (laws_FnExactReadTurn.calls k y0 true W  hLv hk).mono fun e W' ⟨he, bel⟩ => ?_
  subst he
  exact ⟨_, rfl, _, _, _, [], _, [], hW', trodAll_mk1 (shut_bool (show Tryd.prog.underlying 4 = some .bool by kernel_rfl) _), (trodAll_cons_mk (Below.trod laidOut (by kernel_rfl) (of_decide_eq_true (by kernel_rfl)) k0 bel lt0) trodAll_mk0), rfl, bel.frame _, fun h => by cases h⟩
theorem over : Rows.fnExactReadTurnRow.holds Tryd.pinned (OpenSpec.ofChange Rows.fnExactReadTurnSpec) :=
  OpenClaim.holds_of_wide 5 Tryd.f5 rfl rfl rfl rfl rfl rfl rfl ⟨rfl, rfl, rfl, rfl, rfl⟩ rfl rfl rfl rfl rfl (by kernel_rfl) Tryd.func5 (by kernel_rfl)
    (of_decide_eq_true (by kernel_rfl)) (by unfold Func.isWrapper; first | (rw [if_pos (by decide +kernel)]; kernel_rfl) | (rw [if_neg (by decide +kernel)]; exact ⟨rfl, rfl⟩))
    (fun os started H enc _ => lifted os started H enc)
end Go.Proofs.YtnjpjddliaoboaaDoor.fnExactReadTurn
namespace Go.Proofs.YtnjpjddliaoboaaDoor
theorem fnExactReadTurn_row_holds : Rows.FnExactReadTurnSaid := fnExactReadTurn.over
theorem fnExactReadTurn_card : Rows.FnExactReadTurnCardSaid :=
  Claim7.holds_tied_plain_at .later [] [.data, .data, .data, .sentinel, .sentinel] true (true, "2a064d3a33534ff611381775d3ad0adf5f6ebb5256fac9abd8c288c98d4b4b04") true
    fnExactReadTurn_row_holds (fun _ h => by cases h) (by kernel_rfl) (fun _ h => by cases h) fnExactReadTurn_row_tie rfl ⟨rfl, rfl⟩ (by kernel_rfl) rfl
    (fun f fn hf hfn => by
      obtain rfl : f = 5 := Option.some.inj ((show Tryd.prog.funcNamed "loop.example/g01033/laws.FnExactReadTurn" = some 5 by kernel_rfl).symm.trans hf) |>.symm
      obtain rfl : fn = Tryd.f5 := (Option.some.inj (Tryd.func5.symm.trans hfn)).symm
      exact ⟨by kernel_rfl, fun j t ht => by
        rw [Tryd.params5] at ht
        have hm : t ∈ [9] := by simpa using Array.mem_of_getElem? ht
        have hall : ([9].all fun u => !Tryd.prog.wantsStandIn u) = true := by kernel_rfl
        exact (show Tryd.prog.wantsStandIn t = false by simpa using List.all_eq_true.1 hall t hm)⟩)
    (by kernel_rfl)
end Go.Proofs.YtnjpjddliaoboaaDoor
end
#print axioms Go.Proofs.YtnjpjddliaoboaaDoor.fnExactReadTurn_card
