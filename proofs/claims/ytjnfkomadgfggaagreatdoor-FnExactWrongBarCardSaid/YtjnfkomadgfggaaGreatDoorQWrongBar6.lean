/- What is proved: fnExactWrongBar_card, without further conditions; this text holds part 7 of 7 of its proof. -/
import Derived.ProofKit
import Derived.LaidMore
import Derived.OpenShut
import Derived.ShutString
import Derived.ChangeOld
import Derived.Below
import Derived.SizedLaws
import Derived.Stop.Joined
import Derived.Lib.LaidTab
import Derived.Deep.Slices
import Derived.Shelf.Vars
import Derived.Test.YtjnfkomadgfggaaGreatDoorTie
import Derived.Test.YtjnfkomadgfggaaGreatDoorCards
import Derived.WalkKit
import Derived.Lay
import Derived.Test.YtjnfkomadgfggaaGreatDoorQWrongBar5
section
namespace Go.Proofs.YtjnfkomadgfggaaGreatDoorY
open Go.RowKit Go.ChangeShapes Go.Proofs.YtjnfkomadgfggaaGreatDoorW.PrintWords
def Opens (P : Program) (w : World) (t : TypeId) {α : Type} (d : Kd α) (wf : α → Prop) : Prop :=
  P.cellsOf t = d.sz ∧ ∀ (H : Type) (enc : TypeId × Value → H) (base : Nat) (sp : Nat → Bool) (held : Bool) (fuel : Nat) (cs : List Value) (x : DataW H × List MemPlace),
    DataW.trod enc P w base sp held fuel t cs = some x → ∃ a, d.K w a cs ∧ wf a
section
variable {P : Program} {w : World}
theorem Opens.int {t : TypeId} {k : IntKind} (ht : P.underlying t = some (.int k)) (hc : P.cellsOf t = 1) : Opens P w t (Kd.int k) (fun n => (Lit.int k n).wf = true) :=
  ⟨hc, fun H enc base sp held fuel cs x h => by
    obtain ⟨n, rfl, _, hw⟩ := DataW.trod_int ht h
    exact ⟨n, rfl, hw⟩⟩
theorem Opens.bool {t : TypeId} (ht : P.underlying t = some .bool) (hc : P.cellsOf t = 1) : Opens P w t Kd.bool (fun _ => True) :=
  ⟨hc, fun H enc base sp held fuel cs x h => by
    obtain ⟨b, rfl, _⟩ := DataW.trod_bool ht h
    exact ⟨b, rfl, trivial⟩⟩
theorem Opens.string {t : TypeId} (ht : P.underlying t = some .string) (hc : P.cellsOf t = 1) : Opens P w t Kd.string (fun s => s.size ≤ 9223372036854775807) :=
  ⟨hc, fun H enc base sp held fuel cs x h => by
    obtain ⟨s, rfl, _, hs⟩ := DataW.trod_string ht h
    exact ⟨s, rfl, hs⟩⟩
theorem choose_list {α : Type} {p : Nat → α → Prop} : ∀ (n : Nat), (∀ i, i < n → ∃ a, p i a) → ∃ l : List α, l.length = n ∧ ∀ i a, l[i]? = some a → p i a
  | 0, _ => ⟨[], rfl, fun i a h => by simp at h⟩
  | n + 1, h => by
    obtain ⟨l, hl, hp⟩ := choose_list n (fun i hi => h i (by omega))
    obtain ⟨a, ha⟩ := h n (by omega)
    refine ⟨l ++ [a], by simp [hl], fun i b hb => ?_⟩
    by_cases hi : i < n
    · rw [List.getElem?_append_left (by omega)] at hb
      exact hp i b hb
    · rw [List.getElem?_append_right (by omega)] at hb
      have h0 : i - l.length = 0 := by
        rcases Nat.eq_zero_or_pos (i - l.length) with h | h
        · exact h
        · rw [List.getElem?_eq_none (by simp; omega)] at hb; cases hb
      rw [h0] at hb
      simp at hb
      subst hb
      have : i = n := by omega
      subst this
      exact ha
theorem Opens.slice {t e : TypeId} {α : Type} {d : Kd α} {wf : α → Prop} (ht : P.underlying t = some (.slice e)) (hc : P.cellsOf t = 1) (o : Opens P w e d wf) :
    Opens P w t (Kd.slice e d) (fun l => l.length ≤ 9223372036854775807 ∧ ∀ a ∈ l, wf a) :=
  ⟨hc, fun H enc base sp held fuel cs x h => by
    rcases Go.Deep.open_slice ht h with ⟨rfl, _⟩ | ⟨a, len, cap, m, n, D, Pl, rfl, _, hl, hm, hmm, _, hx⟩
    · exact ⟨[], ⟨none, 0, rfl, Nat.le_refl _, rfl, by simp, fun h => absurd h (by simp)⟩, by simp, by simp⟩
    · have hle : len ≤ m := by rw [hmm]; split <;> omega
      have hmx : cap ≤ 9223372036854775807 := hm
      obtain ⟨l, hlen, hp⟩ := choose_list (p := fun i y => (∃ c, c.length = d.sz ∧ d.K w y c ∧ ∀ j u, c[j]? = some u → w.cell? (a.add (i * d.sz + j)) = some u) ∧ wf y) len (fun i hi => by
        obtain ⟨cs', h1, h2⟩ := hx i (by omega)
        obtain ⟨y, hK, hw⟩ := o.2 H enc base sp held n cs' _ h2
        obtain ⟨_, hl', hcell⟩ := World.cells?_some h1
        rw [o.1] at hl' hcell
        refine ⟨y, ⟨cs', hl', hK, fun j u hu => ?_⟩, hw⟩
        have hj : j < d.sz := by
          rcases Nat.lt_or_ge j cs'.length with h | h
          · omega
          · rw [List.getElem?_eq_none h] at hu; cases hu
        have := hcell j hj
        rw [add_add] at this
        rw [this, hu])
      refine ⟨l, ⟨some a, cap, by rw [hlen], by omega, ⟨rfl, by omega, fun _ => ⟨a, rfl, fun j y hy => (hp j y hy).1⟩⟩⟩, by omega, fun y hy => ?_⟩
      obtain ⟨i, hi⟩ := List.mem_iff_getElem?.1 hy
      exact (hp i y hi).2⟩
def OpensL (P : Program) (w : World) (fs : List Field) (off : Nat) {α : Type} (d : Kd α) (wf : α → Prop) : Prop :=
  ∀ (H : Type) (enc : TypeId × Value → H) (base : Nat) (sp : Nat → Bool) (held : Bool) (fuel : Nat) (cs : List Value),
    (∀ f ∈ fs, ∃ x, DataW.trod enc P w base sp held fuel f.type ((cs.drop f.offset).take (P.cellsOf f.type)) = some x) → cs.length = off + d.sz → ∃ a, d.K w (a : α) (cs.drop off) ∧ wf a
theorem OpensL.last {f : Field} {off : Nat} {α : Type} {d : Kd α} {wf : α → Prop} (o : Opens P w f.type d wf) (ho : f.offset = off) : OpensL P w [f] off d wf := by
  intro H enc base sp held fuel cs h hl
  obtain ⟨x, hx⟩ := h f (List.mem_singleton.2 rfl)
  rw [o.1, ho, List.take_of_length_le (by simp; omega)] at hx
  exact o.2 _ _ _ _ _ _ _ _ hx
theorem OpensL.cons {f : Field} {fs : List Field} {off : Nat} {α β : Type} {d : Kd α} {e : Kd β} {wf : α → Prop} {wf' : β → Prop} (o : Opens P w f.type d wf) (ho : f.offset = off) (r : OpensL P w fs (off + d.sz) e wf') :
    OpensL P w (f :: fs) off (Kd.pair d e) (fun p => wf p.1 ∧ wf' p.2) := by
  intro H enc base sp held fuel cs h hl
  have hs : (Kd.pair d e).sz = d.sz + e.sz := rfl
  obtain ⟨x, hx⟩ := h f (List.mem_cons_self ..)
  obtain ⟨b, hb, hwb⟩ := r H enc base sp held fuel cs (fun g hg => h g (List.mem_cons_of_mem _ hg)) (by omega)
  rw [o.1, ho] at hx
  obtain ⟨a, ha, hwa⟩ := o.2 _ _ _ _ _ _ _ _ hx
  refine ⟨(a, b), ⟨(cs.drop off).take d.sz, cs.drop (off + d.sz), ?_, ?_, ?_⟩, hwa, hwb⟩
  all_goals first
    | exact ha
    | exact hb
    | (rw [← List.drop_drop, List.take_append_drop])
theorem Opens.struct {t : TypeId} {fs : Array Field} {α β : Type} {d : Kd α} {wf : α → Prop} {f : β → α} (g : α → β) (hg : ∀ a, f (g a) = a) (ht : P.underlying t = some (.struct fs)) (hc : P.cellsOf t = d.sz) (o : OpensL P w fs.toList 0 d wf) :
    Opens P w t (Kd.iso d f) (fun b => wf (f b)) :=
  ⟨hc, fun H enc base sp held fuel cs x h => by
    obtain ⟨xs, n, _, _, hl, hn, hf⟩ := DataW.trod_struct ht h
    obtain ⟨a, ha, hw⟩ := o H enc base sp held n cs (fun f hm => by
      obtain ⟨i, hi⟩ := List.mem_iff_getElem?.1 hm
      have hi' : fs[i]? = some f := by rw [← hi, Array.getElem?_toList]
      have := hf i f hi'
      have hlt : i < xs.length := by
        rcases Nat.lt_or_ge i fs.size with h | h
        · omega
        · rw [Array.getElem?_eq_none h] at hi'; cases hi'
      rw [List.getElem?_eq_getElem hlt] at this
      exact ⟨_, this⟩) (by rw [hl, hc]; omega)
    have e : f (g a) = a := hg a
    exact ⟨g a, by show d.K w (f (g a)) cs; rw [e]; exact ha, by show wf (f (g a)); rw [e]; exact hw⟩⟩
theorem laid_mem {laid : List (String × DataW Unit)} {n : String} {d : DataW Unit} (hm : (n, d) ∈ laid) : ∀ {ps : List MemPlace}, DataW.LaidVars P w laid ps →
    ∃ g t cs fuel p, P.globalNamed n = some g ∧ (P.globals[g]?).map (·.type) = some t ∧ w.var? P n = some cs ∧ DataW.trod (fun _ => ()) P w 0 (fun _ => true) false fuel t cs.toList = some (d, p) := by
  induction laid with
  | nil => cases hm
  | cons a l ih =>
    obtain ⟨m, e⟩ := a
    rintro ps ⟨g, t, cs, fuel, p, q, h1, h2, h3, h4, h5, _⟩
    rcases List.mem_cons.1 hm with h | h
    · cases h
      exact ⟨g, t, cs, fuel, p, h1, h2, h3, h4⟩
    · exact ih h h5
theorem tab_laid {laid : List (String × DataW Unit)} {name : String} {k : IntKind} {zs : List Int} (hm : (name, Lib.tabData k zs) ∈ laid) {g : Nat} {t e : TypeId} {n : Nat}
    (hg : P.globalNamed name = some g) (hty : (P.globals[g]?).map (·.type) = some t) (ht : P.underlying t = some (.array n e)) (he : P.underlying e = some (.int k)) (hce : P.cellsOf e = 1) (hct : P.cellsOf t = n)
    (h : laidMetH P laid w) (hp : (laid.all fun x => x.2.handleName?.isNone) = true) : Lib.TabIs P w name k zs := by
  rw [MakeChecks.laidMetH_plain _ _ _ hp] at h
  obtain ⟨ps, hv, _⟩ := h
  obtain ⟨g', t', cs, fuel, p, hg', ht', hvar, hd⟩ := laid_mem hm hv
  obtain rfl := Option.some.inj (hg.symm.trans hg')
  obtain rfl := Option.some.inj (hty.symm.trans ht')
  unfold Lib.TabIs
  rw [hvar, ← Lib.cells_of_tab ht he hce hct hd]
theorem iface_laid {laid : List (String × DataW Unit)} {name tn : String} {dd : DataW Unit} (hm : (name, DataW.iface tn dd) ∈ laid) {g : Nat} {t : TypeId} {ms : Array (String × TypeId)}
    (hg : P.globalNamed name = some g) (hty : (P.globals[g]?).map (·.type) = some t) (ht : P.underlying t = some (.interface ms))
    (h : laidMetH P laid w) (hp : (laid.all fun x => x.2.handleName?.isNone) = true) : ∃ tp p, w.var? P name = some #[.iface tp p] := by
  rw [MakeChecks.laidMetH_plain _ _ _ hp] at h
  obtain ⟨ps, hv, _⟩ := h
  obtain ⟨g', t', cs, fuel, p, hg', ht', hvar, hd⟩ := laid_mem hm hv
  obtain rfl := Option.some.inj (hg.symm.trans hg')
  obtain rfl := Option.some.inj (hty.symm.trans ht')
  obtain ⟨l⟩ := cs
  cases fuel with
  | zero => simp [DataW.trod] at hd
  | succ n =>
    unfold DataW.trod at hd
    rw [ht] at hd
    split at hd <;> simp_all
end
theorem handed_shaped {H : Type} {enc : TypeId × Value → H} {a : Assume} {C : Checked} {os : Os} {f : FuncId} {fn : Func} {s : ChangeSpec} {conds : List PathCond} {apart fresh handsOn again : Bool} {X : World → Array Value → Prop}
    (hX : ∀ (w w' : World) (args : Array Value), w.heap = w'.heap → X w args → X w' args)
    (own : ownKnob C.prog.godebug = none) (started : os.Started) (noInit : C.prog.inits.idxOf? f = none) (hfn : C.prog.funcs[f]? = some fn)
    (witness : ∃ (w : World) (tape : Tape) (i : Input), w.os = os ∧ (w.forCall tape i).Shaped C.prog ∧ i.vars = [] ∧ Input.okWide C.prog (w.forCall tape i) .any w.heap.size f i ∧
      ((s.pre enc C.prog fn conds apart (w.forCall tape i).memory i.args ∧ X (w.forCall tape i).memory i.args) ∧ sizedMet enc C.prog fn (OpenSpec.ofChange s) apart (w.forCall tape i).memory i.args) ∧ a.holds C.prog (lone (Frame.enter C.prog f i.args .normal) [] (w.forCall tape i)))
    (contract : ∀ (W : World) (base : Nat) (args : Array Value) (ds gs : List (DataW H)) (before : List MemPlace),
      (∀ (j : Nat) t v, fn.params[j]? = some t → args[j]? = some v → Value.okWide C.prog W .any base t v) →
      DataW.Whole enc C.prog fn.params.toList s.vars apart W args.toList ds gs before →
      conds.all (PathCond.test C.prog ⟨fn.params.toList, ds, s.plain.varTypes C.prog, gs⟩) = true →
      (DataW.weightsEach C.prog (fn.params.toList ++ s.plain.varTypes C.prog) (ds ++ gs)).all (· ≤ reachBytes) = true → X W args → W.ShapedOpen C.prog →
      a.holds C.prog (lone (Frame.enter C.prog f args .normal) [] W) →
      Calls C.prog f args W fun e W' => ∃ v, e = .returned v ∧ s.post enc C.prog fn apart fresh handsOn again W args v W') :
    ReturnsInHanded a C os f .any (fun w args => (s.pre enc C.prog fn conds apart w args ∧ X w args) ∧ sizedMet enc C.prog fn (OpenSpec.ofChange s) apart w args) (s.post enc C.prog fn apart fresh handsOn again) := by
  refine returnsInHanded_of_calls own started noInit witness ?_
  intro w tape i _ hsh _ hok hpre hholds
  obtain ⟨_, _, _, fn', hfn', _, _, _, _, hval⟩ := hok
  have e : fn' = fn := Option.some.inj (hfn'.symm.trans hfn)
  subst e
  obtain ⟨⟨⟨ds, gs, before, hw, hc⟩, hx⟩, hz⟩ := hpre
  have hw' := DataW.Whole.of_heap (w' := w.forCall tape i) (by rfl) hw
  refine (contract (w.forCall tape i) w.heap.size i.args ds gs before hval hw' hc (hz.weights hw) (hX _ _ _ (by rfl) hx) hsh hholds).mono fun e W' ⟨v, he, hp⟩ => ?_
  subst he
  exact ChangeSpec.post_blind hp
end Go.Proofs.YtjnfkomadgfggaaGreatDoorY
end
section
namespace Go.Proofs.YtjnfkomadgfggaaGreatDoor.Pu
set_option linter.unusedSimpArgs false
set_option linter.unusedVariables false
open Go.RowKit Go.Proofs.YtjnfkomadgfggaaGreatDoorW.PrintWords
theorem wr {x : Int} (h0 : -9223372036854775808 ≤ x) (h1 : x ≤ 9223372036854775807) : wrap64 x = x := by
  unfold wrap64
  omega
theorem Ev_succ {α : Type} {g : Nat → Option α} {r : α} (h : Ev (fun k => g (k + 1)) r) : Ev g r := Ev.step (fun _ => rfl) h
theorem Ev_ite {α : Type} {c : Prop} [Decidable c] {a b : Nat → Option α} {r : α} (h1 : c → Ev a r) (h2 : ¬ c → Ev b r) : Ev (fun k => if c then a k else b k) r := by
  by_cases hc : c
  · simp only [if_pos hc]
    exact h1 hc
  · simp only [if_neg hc]
    exact h2 hc
theorem bytes_ext {a b : ByteArray} (h : a.data.toList = b.data.toList) : a = b := by
  cases a
  cases b
  simp only [ByteArray.mk.injEq]
  exact Array.toList_inj.1 h
theorem size_mk (l : List UInt8) : (⟨l.toArray⟩ : ByteArray).size = l.length := by simp [ByteArray.size]
theorem size_toList (s : ByteArray) : s.size = s.data.toList.length := by rw [Array.length_toList]; rfl
theorem app_mk (a b : List UInt8) : (⟨a.toArray⟩ : ByteArray) ++ ⟨b.toArray⟩ = ⟨(a ++ b).toArray⟩ := by
  apply bytes_ext
  simp
def allFrom (p : Int → Bool) (s : ByteArray) : Nat → Nat → Bool
  | _, 0 => true
  | i, d + 1 => p (bt s i) && allFrom p s (i + 1) d
theorem toList_data (s : ByteArray) : s.toList = s.data.toList := ByteArray.toList_eq s
theorem toList_nil_iff (s : ByteArray) : s.toList = ([] : List UInt8) ↔ s.size = 0 := by
  rw [toList_data, size_toList, List.length_eq_zero_iff]
theorem set_copy {α : Type} (l : List α) (z : α) (i d : Nat) (h : i + (d + 1) = l.length) (x : α) (hx : l[i]? = some x) :
    (l.take i ++ List.replicate (d + 1) z).set i x = l.take (i + 1) ++ List.replicate d z := by
  have hlt : i < l.length := by omega
  have hl : (l.take i).length = i := by rw [List.length_take]; omega
  rw [List.set_append_right _ _ (by omega), hl, Nat.sub_self, List.replicate_succ, List.set_cons_zero, List.take_succ_eq_append_getElem hlt]
  rw [List.getElem?_eq_getElem hlt] at hx
  obtain rfl := Option.some.inj hx
  rw [List.append_assoc]
  rfl
end Go.Proofs.YtjnfkomadgfggaaGreatDoor.Pu
end
section
namespace Go.Proofs.YtjnfkomadgfggaaGreatDoor.Pu
set_option linter.unusedSimpArgs false
set_option linter.unusedVariables false
open Go.RowKit Go.Proofs.YtjnfkomadgfggaaGreatDoorW.PrintWords Go.Proofs.YtjnfkomadgfggaaGreatDoor.PR
theorem decDigits_lt (j : Nat) : ∀ u, u < 10 ^ (j + 1) → (Lib.decDigits u).length ≤ j + 1 := by
  induction j with
  | zero =>
    intro u hu
    rw [Lib.decDigits, dif_pos (by simpa using hu)]
    simp
  | succ j ih =>
    intro u hu
    rw [Lib.decDigits]
    by_cases h : u < 10
    · rw [dif_pos h]
      simp
    · rw [dif_neg h, List.length_append]
      have := ih (u / 10) (by rw [Nat.pow_succ] at hu; omega)
      simp only [List.length_singleton]
      omega
theorem itoa_length (n : Int) (h1 : -9223372036854775808 ≤ n) (h2 : n ≤ 9223372036854775807) : (Lib.itoa n).length ≤ 20 := by
  unfold Lib.itoa
  by_cases hn : n < 0
  · rw [if_pos hn, List.length_cons]
    have := decDigits_lt 18 n.natAbs (by omega)
    omega
  · rw [if_neg hn]
    have := decDigits_lt 18 n.toNat (by omega)
    omega
theorem Decimal_eq (n : Int) (h1 : -9223372036854775808 ≤ n) (h2 : n ≤ 9223372036854775807) : impl_Decimal.f n = some ⟨(Lib.itoa n).toArray⟩ := by
  unfold impl_Decimal.f
  rw [if_pos ⟨h1, h2⟩]
end Go.Proofs.YtjnfkomadgfggaaGreatDoor.Pu
end
section
namespace Go.Proofs.YtjnfkomadgfggaaGreatDoor.Pu
set_option linter.unusedSimpArgs false
set_option linter.unusedVariables false
open Go.RowKit Go.Proofs.YtjnfkomadgfggaaGreatDoorW.PrintWords Go.Proofs.YtjnfkomadgfggaaGreatDoor.PR
def isD (c : UInt8) : Bool := decide (48 ≤ c.toNat ∧ c.toNat ≤ 57)
theorem ofNat_digit (n : Nat) (h : n < 10) : (UInt8.ofNat (48 + n)).toNat = 48 + n := by
  rw [UInt8.toNat_ofNat']
  omega
theorem dec_digits (u : Nat) : ∀ c ∈ Lib.decDigits u, 48 ≤ c.toNat ∧ c.toNat ≤ 57 := by
  induction u using Nat.strongRecOn with
  | _ u ih =>
    intro c hc
    rw [Lib.decDigits] at hc
    by_cases h : u < 10
    · rw [dif_pos h] at hc
      rw [List.mem_singleton.1 hc, ofNat_digit u h]
      omega
    · rw [dif_neg h] at hc
      rcases List.mem_append.1 hc with hc | hc
      · exact ih (u / 10) (by omega) c hc
      · rw [List.mem_singleton.1 hc, ofNat_digit (u % 10) (by omega)]
        omega
theorem dec_ne (u : Nat) : Lib.decDigits u ≠ [] := by
  rw [Lib.decDigits]
  by_cases h : u < 10
  · rw [dif_pos h]
    simp
  · rw [dif_neg h]
    simp
theorem parseM_dec (M : Nat) (hM : 1000000000000000000 ≤ M) (u : Nat) : u < 1000000000000000000 → ∀ r, Lib.parseUintM M 0 (Lib.decDigits u ++ r) = Lib.parseUintM M u r := by
  induction u using Nat.strongRecOn with
  | _ u ih =>
    intro hu r
    rw [Lib.decDigits]
    by_cases h : u < 10
    · rw [dif_pos h, List.singleton_append, Lib.parseUintM, ofNat_digit u h, if_pos (by omega), if_neg (by omega), if_neg (by omega)]
      congr 1
      omega
    · rw [dif_neg h, List.append_assoc, List.singleton_append, ih (u / 10) (by omega) (by omega), Lib.parseUintM, ofNat_digit (u % 10) (by omega), if_pos (by omega), if_neg (by omega), if_neg (by omega)]
      congr 1
      omega
theorem parseIntB_dec (u : Nat) (hu : u < 1000000000000000000) : Lib.parseIntB 64 (Lib.decDigits u) = .ok (u : Int) := by
  have h := parseM_dec (2 ^ 64 - 1) (by decide) u hu []
  rw [List.append_nil] at h
  have hd := dec_digits u
  have hn := dec_ne u
  generalize Lib.decDigits u = l at h hd hn
  cases l with
  | nil => exact absurd rfl hn
  | cons c r =>
    have hc := hd c (by simp)
    have h1 : ¬ (c.toNat = 43 ∨ c.toNat = 45) := by omega
    have h2 : ¬ (c.toNat = 45) := by omega
    have e : Lib.parseUintB 64 (c :: r) = .ok u := by
      unfold Lib.parseUintB
      rw [if_neg hn, h]
      rfl
    unfold Lib.parseIntB
    simp only
    rw [if_neg h1, e]
    simp only [h2, not_false_eq_true, true_and, false_and, if_false]
    rw [if_neg (by simp only [Nat.reduceSub, Nat.reducePow]; omega)]
def stepD (a : Nat) (c : UInt8) : Nat := 10 * a + (c.toNat - 48)
def valD (acc : Nat) (l : List UInt8) : Nat := l.foldl stepD acc
theorem valD_nil (acc : Nat) : valD acc [] = acc := List.foldl_nil
theorem valD_cons (acc : Nat) (c : UInt8) (r : List UInt8) : valD acc (c :: r) = valD (10 * acc + (c.toNat - 48)) r := List.foldl_cons ..
theorem valD_append (x y : List UInt8) (acc : Nat) : valD acc (x ++ y) = valD (valD acc x) y := List.foldl_append ..
theorem valD_dec (u : Nat) : valD 0 (Lib.decDigits u) = u := by
  induction u using Nat.strongRecOn with
  | _ u ih =>
    rw [Lib.decDigits]
    by_cases h : u < 10
    · rw [dif_pos h]
      simp only [valD_cons, valD_nil, ofNat_digit u h]
      omega
    · rw [dif_neg h, valD_append, ih (u / 10) (by omega)]
      simp only [valD_cons, valD_nil, ofNat_digit (u % 10) (by omega)]
      omega
theorem digit_back (c : UInt8) (h : 48 ≤ c.toNat) : UInt8.ofNat (48 + (c.toNat - 48)) = c := by
  rw [show 48 + (c.toNat - 48) = c.toNat by omega]
  exact UInt8.ofNat_toNat
theorem dec_valD (n : Nat) : ∀ l : List UInt8, l.length = n → (∀ c ∈ l, 48 ≤ c.toNat ∧ c.toNat ≤ 57) → l ≠ [] → l.head? ≠ some 48 → Lib.decDigits (valD 0 l) = l ∧ 1 ≤ valD 0 l := by
  induction n with
  | zero => intro l hl _ hn; exact absurd (List.eq_nil_of_length_eq_zero hl) hn
  | succ n ih =>
    intro l hl hd hn hh
    have e := (List.dropLast_concat_getLast hn).symm
    generalize hi : l.dropLast = init at e
    generalize l.getLast hn = c at e
    subst e
    have hc := hd c (by simp)
    cases init with
    | nil =>
      simp only [List.nil_append, List.head?_cons, ne_eq, Option.some.injEq] at hh
      have h1 : c.toNat ≠ 48 := fun e => hh (by rw [← UInt8.toNat_inj]; exact e)
      simp only [List.nil_append, valD_cons, valD_nil]
      refine ⟨?_, by omega⟩
      rw [Lib.decDigits, dif_pos (by omega), Nat.mul_zero, Nat.zero_add, digit_back c hc.1]
    | cons a t =>
      obtain ⟨h1, h2⟩ := ih (a :: t) (by simpa using hl) (fun x hx => hd x (by simp only [List.mem_append]; exact .inl hx)) (by simp) (by simpa using hh)
      rw [valD_append]
      simp only [valD_cons, valD_nil]
      refine ⟨?_, by simp only [valD_cons, valD_nil] at h2; omega⟩
      simp only [valD_cons, valD_nil] at h1 h2
      rw [Lib.decDigits, dif_neg (by omega)]
      rw [show (10 * valD (10 * 0 + (a.toNat - 48)) t + (c.toNat - 48)) / 10 = valD (10 * 0 + (a.toNat - 48)) t by omega, show (10 * valD (10 * 0 + (a.toNat - 48)) t + (c.toNat - 48)) % 10 = c.toNat - 48 by omega, h1, digit_back c hc.1]
theorem dec_head (u : Nat) : 1 ≤ u → (Lib.decDigits u).head? ≠ some 48 := by
  induction u using Nat.strongRecOn with
  | _ u ih =>
    intro hu
    rw [Lib.decDigits]
    by_cases h : u < 10
    · rw [dif_pos h]
      simp only [List.head?_cons, ne_eq, Option.some.injEq]
      intro e
      have := congrArg UInt8.toNat e
      rw [ofNat_digit u h] at this
      have h48 : (48 : UInt8).toNat = 48 := rfl
      omega
    · rw [dif_neg h]
      have h1 := ih (u / 10) (by omega) (by omega)
      have h2 := dec_ne (u / 10)
      cases hl : Lib.decDigits (u / 10) with
      | nil => exact absurd hl h2
      | cons a t =>
        rw [hl] at h1
        simpa using h1
theorem itoa_nat (n : Int) (h : 0 ≤ n) : Lib.itoa n = Lib.decDigits n.toNat := by
  unfold Lib.itoa
  rw [if_neg (by omega)]
def numR : List UInt8 → Int × Bool
  | [] => (0, false)
  | c :: r =>
    if c.toNat = 45 then (if r = [] ∨ 18 < r.length ∨ r.head? = some 48 then (0, false) else if r.all isD = true then (-(valD 0 r : Int), true) else (0, false))
    else (if 18 < r.length + 1 ∨ (c = 48 ∧ r ≠ []) then (0, false) else if (c :: r).all isD = true then ((valD 0 (c :: r) : Int), true) else (0, false))
theorem all_isD {l : List UInt8} (h : l.all isD = true) : ∀ c ∈ l, 48 ≤ c.toNat ∧ c.toNat ≤ 57 := fun c hc => of_decide_eq_true (List.all_eq_true.1 h c hc)
theorem isD_all {l : List UInt8} (h : ∀ c ∈ l, 48 ≤ c.toNat ∧ c.toNat ≤ 57) : l.all isD = true := List.all_eq_true.2 fun c hc => decide_eq_true (h c hc)
theorem numR_true (l : List UInt8) (n : Int) (h : numR l = (n, true)) (h0 : 0 ≤ n) : l = Lib.itoa n := by
  cases l with
  | nil => simp [numR] at h
  | cons c r =>
    simp only [numR] at h
    by_cases hc : c.toNat = 45
    · rw [if_pos hc] at h
      split at h
      · simp at h
      · rename_i hn
        split at h
        · rename_i ha
          injection h with h1 _
          have h2 := (dec_valD r.length r rfl (all_isD ha) (fun e => hn (.inl e)) (fun e => hn (.inr (.inr e)))).2
          omega
        · simp at h
    · rw [if_neg hc] at h
      split at h
      · simp at h
      · rename_i hn
        split at h
        · rename_i ha
          injection h with h1 _
          rw [← h1, itoa_nat _ (by omega), Int.toNat_natCast]
          by_cases h48 : c = 48
          · have hr : r = [] := Classical.byContradiction fun e => hn (.inr ⟨h48, e⟩)
            subst hr
            subst h48
            simp only [valD_cons, valD_nil]
            rw [Lib.decDigits, dif_pos (by decide)]
            rfl
          · exact (dec_valD (c :: r).length (c :: r) rfl (all_isD ha) (by simp) (by simpa using h48)).1.symm
        · simp at h
theorem numR_itoa (n : Int) (h0 : 0 ≤ n) (h1 : n ≤ 100000000) : numR (Lib.itoa n) = (n, true) := by
  have hv := valD_dec n.toNat
  have hd := dec_digits n.toNat
  have hn := dec_ne n.toNat
  have hl := decDigits_lt 9 n.toNat (by omega)
  have hh : Lib.decDigits n.toNat = [48] ∨ (Lib.decDigits n.toNat).head? ≠ some 48 := by
    by_cases hz : n.toNat = 0
    · left
      rw [hz, Lib.decDigits, dif_pos (by decide)]
      rfl
    · exact .inr (dec_head _ (by omega))
  rw [itoa_nat n h0]
  generalize Lib.decDigits n.toNat = l at hv hd hn hl hh
  cases l with
  | nil => exact absurd rfl hn
  | cons c r =>
    have hc := hd c (by simp)
    simp only [numR]
    rw [if_neg (by omega), if_neg, if_pos (isD_all hd), hv, Int.toNat_of_nonneg h0]
    rintro (h | ⟨h, h2⟩)
    · simp only [List.length_cons] at hl
      omega
    · rcases hh with e | e
      · injection e with _ e2
        exact h2 e2
      · exact e (by rw [h]; rfl)
end Go.Proofs.YtjnfkomadgfggaaGreatDoor.Pu
end
section
namespace Go.Proofs.YtjnfkomadgfggaaGreatDoor.Pu
set_option linter.unusedSimpArgs false
set_option linter.unusedVariables false
open Go.RowKit Go.Proofs.YtjnfkomadgfggaaGreatDoorW.PrintWords Go.Proofs.YtjnfkomadgfggaaGreatDoor.PR
def headOn {α : Type} (p : List α) : List (List α) → List (List α)
  | [] => [p]
  | x :: xs => (p ++ x) :: xs
def splitB (b : UInt8) : List UInt8 → List (List UInt8)
  | [] => [[]]
  | c :: r => if c = b then [] :: splitB b r else headOn [c] (splitB b r)
theorem splitB_ne (b : UInt8) (l : List UInt8) : splitB b l ≠ [] := by
  cases l with
  | nil => simp [splitB]
  | cons c r =>
    unfold splitB
    split
    · simp
    · unfold headOn
      split <;> simp
theorem headOn_headOn {α : Type} (p q : List α) (L : List (List α)) : headOn p (headOn q L) = headOn (p ++ q) L := by
  cases L <;> simp [headOn]
theorem headOn_nil {α : Type} {L : List (List α)} (h : L ≠ []) : headOn [] L = L := by
  cases L with
  | nil => exact absurd rfl h
  | cons x xs => simp [headOn]
theorem splitB_not (b : UInt8) (x : List UInt8) (h : b ∉ x) (r : List UInt8) : splitB b (x ++ r) = headOn x (splitB b r) := by
  induction x with
  | nil => rw [List.nil_append, headOn_nil (splitB_ne b r)]
  | cons c x ih =>
    have h1 : ¬ (c = b) := fun e => h (by rw [e]; simp)
    have h2 := ih (fun e => h (by simp [e]))
    rw [List.cons_append, splitB, if_neg h1, h2, headOn_headOn]
    rfl
end Go.Proofs.YtjnfkomadgfggaaGreatDoor.Pu
end
section
namespace Go.Proofs.YtjnfkomadgfggaaGreatDoor.Pu
set_option linter.unusedSimpArgs false
set_option linter.unusedVariables false
open Go.RowKit Go.Proofs.YtjnfkomadgfggaaGreatDoorW.PrintWords Go.Proofs.YtjnfkomadgfggaaGreatDoor.PR
theorem l00In_eq (a b c : Int) : spec_l00In.f a b c = some (decide (b ≤ a ∧ a ≤ c)) := by
  unfold spec_l00In.f
  by_cases h : a ≥ b
  · rw [if_pos h]
    simp only [ge_iff_le] at h
    simp [h]
  · rw [if_neg h]
    simp only [ge_iff_le] at h
    simp [h]
theorem within_eq (a b c : Int) : impl_within.f a b c = some (decide (b ≤ a ∧ a ≤ c)) := by
  unfold impl_within.f
  by_cases h : a ≥ b
  · rw [if_pos h]
    simp only [ge_iff_le] at h
    simp [h]
  · rw [if_neg h]
    simp only [ge_iff_le] at h
    simp [h]
end Go.Proofs.YtjnfkomadgfggaaGreatDoor.Pu
end
section
namespace Go.Proofs.YtjnfkomadgfggaaGreatDoor.Pu
set_option linter.unusedSimpArgs false
set_option linter.unusedVariables false
open Go.RowKit Go.Proofs.YtjnfkomadgfggaaGreatDoorW.PrintWords Go.Proofs.YtjnfkomadgfggaaGreatDoor.PR
theorem digit_eq (c : Int) : spec_l01Digit.f c = some (decide (48 ≤ c ∧ c ≤ 57)) := by
  unfold spec_l01Digit.f
  by_cases h : c ≥ 48
  · rw [if_pos h]
    simp only [ge_iff_le] at h
    simp [h]
  · rw [if_neg h]
    simp only [ge_iff_le] at h
    simp [h]
end Go.Proofs.YtjnfkomadgfggaaGreatDoor.Pu
end
section
namespace Go.Proofs.YtjnfkomadgfggaaGreatDoor.Pu
set_option linter.unusedSimpArgs false
set_option linter.unusedVariables false
open Go.RowKit Go.Proofs.YtjnfkomadgfggaaGreatDoorW.PrintWords Go.Proofs.YtjnfkomadgfggaaGreatDoor.PR
theorem bt_mk (l : List UInt8) (i : Nat) (h : i < l.length) : bt ⟨l.toArray⟩ (i : Int) = (l[i].toNat : Int) := by
  have hs : ((i : Int)).toNat < (⟨l.toArray⟩ : ByteArray).size := by rw [Int.toNat_natCast, size_mk]; exact h
  rw [← bt_at _ _ hs]
  rfl
theorem extract_mk (l : List UInt8) (a e : Nat) : (⟨l.toArray⟩ : ByteArray).extract a e = ⟨((l.drop a).take (e - a)).toArray⟩ := by
  apply bytes_ext
  simp [List.extract_eq_take_drop]
theorem l01Number_l0 (l : List UInt8) (hl : l.length ≤ 20) (at_ : Int) (d : Nat) : ∀ (i e n : Nat), i + d = l.length → n < 10 ^ e → e + d ≤ 18 →
    Ev (fun k => spec_l01Number.l0 k ⟨l.toArray⟩ at_ (n : Int) (i : Int)) (if (l.drop i).all isD = true then (if at_ = 1 then -(valD n (l.drop i) : Int) else (valD n (l.drop i) : Int), true) else (0, false)) := by
  induction d with
  | zero =>
    intro i e n hi hn he
    have hp := Nat.pow_le_pow_right (show 0 < 10 by decide) (show e ≤ 18 by omega)
    apply Ev_succ
    simp only [spec_l01Number.l0, size_mk, if_neg (show ¬ ((i : Int) < (l.length : Int)) by omega), List.drop_of_length_le (show l.length ≤ i by omega), List.all_nil, if_true, valD_cons, valD_nil]
    by_cases h : at_ = 1
    · simp only [if_pos h, wr (show -9223372036854775808 ≤ -(n : Int) by omega) (by omega)]
      exact Ev.now _
    · simp only [if_neg h]
      exact Ev.now _
  | succ d ih =>
    intro i e n hi hn he
    have hlt : i < l.length := by omega
    have hp := Nat.pow_le_pow_right (show 0 < 10 by decide) (show e + 1 ≤ 18 by omega)
    rw [Nat.pow_succ] at hp
    rw [List.drop_eq_getElem_cons hlt]
    apply Ev_succ
    simp only [spec_l01Number.l0, size_mk, if_pos (show (i : Int) < (l.length : Int) by omega), if_pos (show (0 : Int) ≤ (i : Int) by omega), bt_mk l i hlt, digit_eq, Option.bind_some]
    by_cases hd : 48 ≤ l[i].toNat ∧ l[i].toNat ≤ 57
    · have hd2 : (48 : Int) ≤ (l[i].toNat : Int) ∧ (l[i].toNat : Int) ≤ 57 := by omega
      have h2 := ih (i + 1) (e + 1) (10 * n + (l[i].toNat - 48)) (by omega) (by rw [Nat.pow_succ]; omega) (by omega)
      rw [List.all_cons, show isD l[i] = true from decide_eq_true hd, Bool.true_and]
      simp only [decide_eq_true hd2, if_true, valD_cons, valD_nil]
      rw [wr (show -9223372036854775808 ≤ 10 * (n : Int) by omega) (by omega), show ((l[i].toNat : Int) - 48) % 256 = (l[i].toNat : Int) - 48 by omega, wr (by omega) (by omega), wr (by omega) (by omega)]
      rw [show ((10 * n + (l[i].toNat - 48) : Nat) : Int) = 10 * (n : Int) + ((l[i].toNat : Int) - 48) by omega, show ((i + 1 : Nat) : Int) = (i : Int) + 1 by omega] at h2
      exact h2
    · have hd2 : ¬ ((48 : Int) ≤ (l[i].toNat : Int) ∧ (l[i].toNat : Int) ≤ 57) := by omega
      rw [List.all_cons, show isD l[i] = false from decide_eq_false hd, Bool.false_and]
      simp only [decide_eq_false hd2, Bool.false_eq_true, if_false]
      exact Ev.now _
theorem l01Number_eq (l : List UInt8) (hl : l.length ≤ 1000000000) : Ev (fun k => spec_l01Number.f k ⟨l.toArray⟩) (numR l) := by
  have j2 : ∀ at_ : Int, Ev (fun k => spec_l01Number.j2 k ⟨l.toArray⟩ at_ true) (0, false) := by
    intro at_
    apply Ev_succ
    simp only [spec_l01Number.j2, if_true]
    exact Ev.now _
  unfold spec_l01Number.f
  cases l with
  | nil =>
    simp only [size_mk, List.length_nil, if_neg (show ¬ ((((0 : Nat)) : Int) > 0) by omega), numR]
    apply Ev_succ
    simp only [spec_l01Number.j0, Bool.false_eq_true, if_false]
    apply Ev_succ
    simp only [spec_l01Number.j1, size_mk, List.length_nil, show (((0 : Nat)) : Int) = 0 from rfl, if_true]
    exact j2 0
  | cons c r =>
    have hlen : (c :: r).length = r.length + 1 := rfl
    have hb0 : bt ⟨(c :: r).toArray⟩ 0 = (c.toNat : Int) := bt_mk (c :: r) 0 (by simp)
    simp only [size_mk, if_pos (show (((c :: r).length : Nat) : Int) > 0 by omega), if_pos (show (0 : Int) < (((c :: r).length : Nat) : Int) by omega), hb0]
    apply Ev_succ
    simp only [numR]
    by_cases hc : c.toNat = 45
    · simp only [spec_l01Number.j0, show ((c.toNat : Int) == 45) = true by simp; omega, if_true, if_pos hc]
      apply Ev_succ
      simp only [spec_l01Number.j1, size_mk]
      by_cases h1 : r = []
      · subst h1
        simp only [List.length_singleton, show (((1 : Nat)) : Int) = 1 from rfl, if_true, true_or]
        exact j2 1
      · have hr : 1 ≤ r.length := List.length_pos_iff.2 h1
        simp only [if_neg (show ¬ ((((c :: r).length : Nat) : Int) = 1) by omega), wr (show -9223372036854775808 ≤ (((c :: r).length : Nat) : Int) - 1 by omega) (by omega), h1, false_or]
        by_cases h2 : 18 < r.length
        · simp only [if_pos (show (((c :: r).length : Nat) : Int) - 1 > 18 by omega), h2, true_or, if_true]
          exact j2 1
        · have hb1 : bt ⟨(c :: r).toArray⟩ 1 = (r[0].toNat : Int) := bt_mk (c :: r) 1 (by omega)
          simp only [if_neg (show ¬ ((((c :: r).length : Nat) : Int) - 1 > 18) by omega), h2, false_or, if_pos (show (0 : Int) ≤ 1 by omega), if_pos (show (1 : Int) < (((c :: r).length : Nat) : Int) by omega), hb1]
          have hh : r.head? = some 48 ↔ r[0].toNat = 48 := by
            rw [List.head?_eq_getElem?, List.getElem?_eq_getElem (by omega), Option.some.injEq]
            exact ⟨fun e => by rw [e]; rfl, fun e => by rw [← UInt8.toNat_inj]; exact e⟩
          by_cases h3 : r[0].toNat = 48
          · simp only [if_pos (show (r[0].toNat : Int) = 48 by omega), if_pos (hh.2 h3), decide_eq_true (show (((c :: r).length : Nat) : Int) > 1 by omega)]
            exact j2 1
          · simp only [if_neg (show ¬ ((r[0].toNat : Int) = 48) by omega), if_neg (fun e => h3 (hh.1 e))]
            apply Ev_succ
            simp only [spec_l01Number.j2, Bool.false_eq_true, if_false]
            have h := l01Number_l0 (c :: r) (by omega) 1 r.length 1 0 0 (by omega) (by decide) (by omega)
            simp only [List.drop_succ_cons, List.drop_zero, if_true] at h
            exact h
    · simp only [spec_l01Number.j0, show ((c.toNat : Int) == 45) = false by simp; omega, Bool.false_eq_true, if_false, if_neg hc]
      apply Ev_succ
      simp only [spec_l01Number.j1, size_mk, if_neg (show ¬ ((((c :: r).length : Nat) : Int) = 0) by omega), wr (show -9223372036854775808 ≤ (((c :: r).length : Nat) : Int) - 0 by omega) (by omega)]
      by_cases h2 : 18 < r.length + 1
      · simp only [if_pos (show (((c :: r).length : Nat) : Int) - 0 > 18 by omega), h2, true_or, if_true]
        exact j2 0
      · simp only [if_neg (show ¬ ((((c :: r).length : Nat) : Int) - 0 > 18) by omega), h2, false_or, if_pos (show (0 : Int) ≤ 0 by omega), if_pos (show (0 : Int) < (((c :: r).length : Nat) : Int) by omega), hb0]
        have hrun : Ev (fun k => spec_l01Number.j2 k ⟨(c :: r).toArray⟩ 0 false) (if (c :: r).all isD = true then ((valD 0 (c :: r) : Int), true) else (0, false)) := by
          apply Ev_succ
          simp only [spec_l01Number.j2, Bool.false_eq_true, if_false]
          have h := l01Number_l0 (c :: r) (by omega) 0 (c :: r).length 0 0 0 (by omega) (by decide) (by omega)
          simp only [List.drop_zero, show ¬ ((0 : Int) = 1) by omega, if_false] at h
          exact h
        by_cases h3 : c.toNat = 48
        · have h4 : c = 48 := by rw [← UInt8.toNat_inj]; exact h3
          simp only [if_pos (show (c.toNat : Int) = 48 by omega)]
          by_cases h5 : r = []
          · have h6 : decide ((((c :: r).length : Nat) : Int) > 1) = false := decide_eq_false (by rw [h5]; simp)
            simp only [h6, if_neg (show ¬ (c = 48 ∧ r ≠ []) from fun e => e.2 h5)]
            exact hrun
          · have hr : 1 ≤ r.length := List.length_pos_iff.2 h5
            simp only [decide_eq_true (show (((c :: r).length : Nat) : Int) > 1 by omega), if_pos (show c = 48 ∧ r ≠ [] from ⟨h4, h5⟩)]
            exact j2 0
        · simp only [if_neg (show ¬ ((c.toNat : Int) = 48) by omega), if_neg (show ¬ (c = 48 ∧ r ≠ []) from fun e => h3 (by rw [e.1]; rfl))]
          exact hrun
def mkB (l : List UInt8) : ByteArray := ⟨l.toArray⟩
theorem l01Split_l0 (l : List UInt8) (hl : l.length ≤ 1000000000) (b : UInt8) (d : Nat) : ∀ (i from_ : Nat) (acc : List ByteArray), i + d = l.length → from_ ≤ i → acc.length + d ≤ 1000000000 →
    Ev (fun k => spec_l01Split.l0 k ⟨l.toArray⟩ (b.toNat : Int) acc (from_ : Int) (i : Int)) (acc ++ (headOn ((l.drop from_).take (i - from_)) (splitB b (l.drop i))).map mkB) := by
  induction d with
  | zero =>
    intro i from_ acc hi hf ha
    apply Ev_succ
    simp only [spec_l01Split.l0, size_mk, if_neg (show ¬ ((i : Int) < (l.length : Int)) by omega), if_pos (show (0 : Int) ≤ (from_ : Int) by omega), if_pos (show (from_ : Int) ≤ (l.length : Int) by omega), if_pos (show acc.length < 8796093022208 by omega), extract_mk, Int.toNat_natCast]
    rw [show l.length = i by omega, List.drop_of_length_le (show l.length ≤ i by omega)]
    simp only [splitB, headOn, List.append_nil, List.map_cons, List.map_nil, mkB]
    exact Ev.now _
  | succ d ih =>
    intro i from_ acc hi hf ha
    have hlt : i < l.length := by omega
    rw [List.drop_eq_getElem_cons hlt]
    apply Ev_succ
    simp only [spec_l01Split.l0, size_mk, if_pos (show (i : Int) < (l.length : Int) by omega), if_pos (show (0 : Int) ≤ (i : Int) by omega), bt_mk l i hlt, wr (show -9223372036854775808 ≤ (i : Int) + 1 by omega) (by omega)]
    by_cases hc : l[i] = b
    · simp only [if_pos (show (l[i].toNat : Int) = (b.toNat : Int) by rw [hc]), if_pos (show (0 : Int) ≤ (from_ : Int) by omega), if_pos (show (from_ : Int) ≤ (i : Int) by omega), if_pos (show (i : Int) ≤ (l.length : Int) by omega), if_pos (show acc.length < 8796093022208 by omega), extract_mk, Int.toNat_natCast]
      have h2 := ih (i + 1) (i + 1) (acc ++ [(⟨((l.drop from_).take (i - from_)).toArray⟩ : ByteArray)]) (by omega) (by omega) (by rw [List.length_append, List.length_singleton]; omega)
      rw [Nat.sub_self, List.take_zero, headOn_nil (splitB_ne b _), show ((i + 1 : Nat) : Int) = (i : Int) + 1 by omega, List.append_assoc] at h2
      rw [splitB, if_pos hc]
      simp only [headOn, List.append_nil, List.map_cons]
      exact h2
    · simp only [if_neg (show ¬ ((l[i].toNat : Int) = (b.toNat : Int)) from fun e => hc (by rw [← UInt8.toNat_inj]; omega))]
      have h2 := ih (i + 1) from_ acc (by omega) (by omega) (by omega)
      rw [show ((i + 1 : Nat) : Int) = (i : Int) + 1 by omega] at h2
      rw [splitB, if_neg hc, headOn_headOn]
      have e : (l.drop from_).take (i + 1 - from_) = (l.drop from_).take (i - from_) ++ [l[i]] := by
        rw [show i + 1 - from_ = (i - from_) + 1 by omega, List.take_succ_eq_append_getElem (by rw [List.length_drop]; omega), List.getElem_drop]
        congr 3
        omega
      rwa [e] at h2
theorem l01Split_eq (l : List UInt8) (hl : l.length ≤ 1000000000) (b : UInt8) : Ev (fun k => spec_l01Split.f k ⟨l.toArray⟩ (b.toNat : Int)) ((splitB b l).map mkB) := by
  have h := l01Split_l0 l hl b l.length 0 0 [] (by omega) (by omega) (by simp; omega)
  rw [List.nil_append, Nat.sub_self, List.take_zero, List.drop_zero, headOn_nil (splitB_ne b l)] at h
  exact h
end Go.Proofs.YtjnfkomadgfggaaGreatDoor.Pu
end
section
namespace Go.Proofs.YtjnfkomadgfggaaGreatDoor.Pu
set_option linter.unusedSimpArgs false
set_option linter.unusedVariables false
open Go.RowKit Go.Proofs.YtjnfkomadgfggaaGreatDoorW.PrintWords Go.Proofs.YtjnfkomadgfggaaGreatDoor.PR
theorem mk_toList (l : List UInt8) : (⟨l.toArray⟩ : ByteArray).toList = l := by
  rw [toList_data]
theorem readDec_itoa (n : Int) (h0 : 0 ≤ n) (h1 : n ≤ 10000) : readDecB ⟨(Lib.itoa n).toArray⟩ = (n, true) := by
  have e : (⟨(Lib.itoa n).toArray⟩ : ByteArray).data.toList = Lib.itoa n := by simp
  have hl := decDigits_lt 9 n.toNat (by omega)
  unfold readDecB
  rw [e]
  have hp := parseIntB_dec n.toNat (by omega)
  rw [itoa_nat n h0] at *
  rw [hp]
  have ht : (Lib.trimPrefix (Lib.decDigits n.toNat) [45]).length ≤ 18 := by
    unfold Lib.trimPrefix
    split
    · rw [List.length_drop]; omega
    · omega
  simp only
  rw [if_neg (by omega), Int.toNat_of_nonneg h0, itoa_nat n h0, if_pos rfl]
theorem ReadDecimal_eq (l : List UInt8) (h : l.length ≤ 1000000000) : impl_ReadDecimal.f ⟨l.toArray⟩ = some (readDecB ⟨l.toArray⟩) := by
  unfold impl_ReadDecimal.f
  rw [if_pos (by rw [size_mk]; omega)]
end Go.Proofs.YtjnfkomadgfggaaGreatDoor.Pu
end
section
namespace Go.Proofs.YtjnfkomadgfggaaGreatDoor.Pu
set_option linter.unusedSimpArgs false
set_option linter.unusedVariables false
open Go.RowKit Go.Proofs.YtjnfkomadgfggaaGreatDoorW.PrintWords Go.Proofs.YtjnfkomadgfggaaGreatDoor.PR
theorem index_byte (b : UInt8) (x y : List UInt8) (h : b ∉ x) : Lib.index (x ++ b :: y) [b] = (x.length : Int) := by
  apply Lib.index_first
  · simp
  · simp [Lib.occAt, List.isPrefixOf]
  · intro j hj
    unfold Lib.occAt
    rw [List.drop_append_of_le_length (by omega), List.drop_eq_getElem_cons hj]
    have hne : ¬ (b = x[j]) := fun e => h (e ▸ List.getElem_mem hj)
    show ((b == x[j]) && _) = false
    rw [beq_eq_false_iff_ne.2 hne]
    rfl
theorem index_no (b : UInt8) (l : List UInt8) (h : b ∉ l) : Lib.index l [b] = -1 := by
  apply Lib.index_none
  intro j hj
  unfold Lib.occAt
  by_cases e : j < l.length
  · rw [List.drop_eq_getElem_cons e]
    have hne : ¬ (b = l[j]) := fun e2 => h (e2 ▸ List.getElem_mem e)
    show ((b == l[j]) && _) = false
    rw [beq_eq_false_iff_ne.2 hne]
    rfl
  · rw [List.drop_of_length_le (by omega)]
    rfl
theorem splitB_self (b : UInt8) (l : List UInt8) (h : b ∉ l) : splitB b l = [l] := by
  have h1 := splitB_not b l h []
  rw [List.append_nil] at h1
  rw [h1]
  simp [splitB, headOn]
theorem splitB_first (b : UInt8) (x y : List UInt8) (h : b ∉ x) : splitB b (x ++ b :: y) = x :: splitB b y := by
  rw [splitB_not b x h, splitB, if_pos rfl]
  simp [headOn]
theorem splitK_all (b : UInt8) (k : Nat) : ∀ l : List UInt8, ((splitB b l).length ≤ k + 1 → Lib.splitK [b] 0 k l = splitB b l) ∧ (k + 1 < (splitB b l).length → (Lib.splitK [b] 0 k l).length = k + 1) := by
  induction k with
  | zero =>
    intro l
    refine ⟨fun h => ?_, fun h => rfl⟩
    by_cases hm : b ∈ l
    · obtain ⟨x, y, rfl, hx⟩ := List.eq_append_cons_of_mem hm
      rw [splitB_first b x y hx, List.length_cons] at h
      have := splitB_ne b y
      have h2 : (splitB b y).length = 0 := by omega
      exact absurd (List.eq_nil_of_length_eq_zero h2) this
    · rw [splitB_self b l hm]
      rfl
  | succ k ih =>
    intro l
    by_cases hm : b ∈ l
    · obtain ⟨x, y, rfl, hx⟩ := List.eq_append_cons_of_mem hm
      have e : Lib.splitK [b] 0 (k + 1) (x ++ b :: y) = x :: Lib.splitK [b] 0 k y := by
        rw [Lib.splitK, index_byte b x y hx, if_neg (by simp)]
        simp
      rw [splitB_first b x y hx, e, List.length_cons, List.length_cons]
      refine ⟨fun h => by rw [(ih y).1 (by omega)], fun h => by rw [(ih y).2 (by omega)]⟩
    · rw [splitB_self b l hm]
      refine ⟨fun _ => ?_, fun h => by simp at h⟩
      unfold Lib.splitK
      rw [index_no b l hm, if_pos (by decide)]
theorem splitB_count (b : UInt8) (l : List UInt8) : (splitB b l).length ≤ l.length + 1 := by
  induction l with
  | nil => simp [splitB]
  | cons c r ih =>
    unfold splitB
    split
    · simp only [List.length_cons]; omega
    · have := splitB_ne b r
      cases hs : splitB b r with
      | nil => exact absurd hs this
      | cons x xs =>
        rw [hs] at ih
        simp only [headOn, List.length_cons] at ih ⊢
        omega
end Go.Proofs.YtjnfkomadgfggaaGreatDoor.Pu
end
section
namespace Go.Proofs.YtjnfkomadgfggaaGreatDoor.Pu
set_option linter.unusedSimpArgs false
set_option linter.unusedVariables false
open Go.RowKit Go.Proofs.YtjnfkomadgfggaaGreatDoorW.PrintWords Go.Proofs.YtjnfkomadgfggaaGreatDoor.PR
def nmT (p : Int) : List UInt8 := (toneB (p % 12) ++ octB (p / 12)).data.toList
theorem nmT_mk (p : Int) : toneB (p % 12) ++ octB (p / 12) = ⟨(nmT p).toArray⟩ := by
  apply bytes_ext
  simp [nmT]
theorem octB_size' (o : Int) (h : o = -1 ∨ o = 0 ∨ o = 1) : (octB o).size ≤ 1 := by rcases h with rfl | rfl | rfl <;> decide
theorem nmT_length (p : Int) (p0 : -12 ≤ p) (p1 : p ≤ 23) : (nmT p).length ≤ 200 := by
  have e := toneB_size (p % 12) (by omega) (by omega)
  have f := octB_size' (p / 12) (by omega)
  have h : (toneB (p % 12) ++ octB (p / 12)).size ≤ 200 := by rw [ByteArray.size_append]; omega
  rw [nmT_mk, size_mk] at h
  exact h
theorem pitchText_eq (p : Int) (p0 : -12 ≤ p) (p1 : p ≤ 23) : impl_pitchText.f p = some ⟨(nmT p).toArray⟩ := by
  unfold impl_pitchText.f
  rw [if_pos ⟨p0, p1⟩, nmT_mk]
def noT (p n : Int) : List UInt8 := nmT p ++ (if n = 1 then [] else Lib.itoa n)
theorem noT_length (p n : Int) (p0 : -12 ≤ p) (p1 : p ≤ 23) (n0 : 1 ≤ n) (n1 : n ≤ 64) : (noT p n).length ≤ 220 := by
  have h1 := nmT_length p p0 p1
  have h2 := itoa_length n (by omega) (by omega)
  unfold noT
  rw [List.length_append]
  split
  · simp only [List.length_nil]; omega
  · omega
end Go.Proofs.YtjnfkomadgfggaaGreatDoor.Pu
end
section
namespace Go.Proofs.YtjnfkomadgfggaaGreatDoor.Pu
set_option linter.unusedSimpArgs false
set_option linter.unusedVariables false
open Go.RowKit Go.Proofs.YtjnfkomadgfggaaGreatDoorW.PrintWords Go.Proofs.YtjnfkomadgfggaaGreatDoor.PR
def okNote (x : S72) : Bool := decide (-12 ≤ x.f0 ∧ x.f0 ≤ 23) && decide (1 ≤ x.f1 ∧ x.f1 ≤ 64)
def okMel (l : List S72) : Bool := decide (l.length ≤ 48) && l.all okNote
theorem rdN_mem (l : List S72) (i : Nat) (h : i < l.length) : rd_T72 l (i : Int) = l[i] := by
  simp [rd_T72, List.getD_eq_getElem?_getD, List.getElem?_eq_getElem h]
theorem dropN_rd (l : List S72) (i : Nat) (h : i < l.length) : l.drop i = rd_T72 l (i : Int) :: l.drop (i + 1) := by
  rw [rdN_mem l i h]
  exact List.drop_eq_getElem_cons h
theorem ValidMelody_l0 (l : List S72) (hl : l.length ≤ 1048576) (d : Nat) : ∀ i : Nat, i + d = l.length → Ev (fun k => impl_ValidMelody.l0 k l (l.length : Int) (i : Int)) ((l.drop i).all okNote) := by
  induction d with
  | zero =>
    intro i hi
    apply Ev_succ
    simp only [impl_ValidMelody.l0, if_neg (show ¬ ((i : Int) < (l.length : Int)) by omega), List.drop_of_length_le (show l.length ≤ i by omega), List.all_nil]
    exact Ev.now _
  | succ d ih =>
    intro i hi
    have hlt : i < l.length := by omega
    have h2 := ih (i + 1) (by omega)
    rw [show ((i + 1 : Nat) : Int) = (i : Int) + 1 by omega] at h2
    apply Ev_succ
    simp only [impl_ValidMelody.l0, impl_pitchOk.f, impl_lengthOk.f, within_eq, Option.bind_some, if_pos (show (i : Int) < (l.length : Int) by omega), if_pos (show 0 ≤ (i : Int) by omega), wr (show -9223372036854775808 ≤ (i : Int) + 1 by omega) (by omega)]
    rw [dropN_rd l i hlt, List.all_cons]
    unfold okNote
    by_cases h : -12 ≤ (rd_T72 l (i : Int)).f0 ∧ (rd_T72 l (i : Int)).f0 ≤ 23
    · by_cases h3 : 1 ≤ (rd_T72 l (i : Int)).f1 ∧ (rd_T72 l (i : Int)).f1 ≤ 64
      · simp only [decide_eq_true h, decide_eq_true h3, if_true, Bool.true_and]
        exact h2
      · simp only [decide_eq_true h, decide_eq_false h3, if_true, Bool.false_eq_true, if_false, Bool.false_and, Bool.and_false]
        exact Ev.now _
    · simp only [decide_eq_false h, Bool.false_eq_true, if_false, Bool.false_and]
      exact Ev.now _
theorem ValidMelody_eq (l : List S72) (hl : l.length ≤ 1048576) : Ev (fun k => impl_ValidMelody.f k l) (okMel l) := by
  unfold impl_ValidMelody.f okMel
  by_cases h : l.length ≤ 48
  · simp only [if_neg (show ¬ ((l.length : Int) > 48) by omega), decide_eq_true h, Bool.true_and]
    exact ValidMelody_l0 l hl l.length 0 (by omega)
  · simp only [if_pos (show (l.length : Int) > 48 by omega), decide_eq_false h, Bool.false_and]
    exact Ev.now _
end Go.Proofs.YtjnfkomadgfggaaGreatDoor.Pu
end
section
namespace Go.Proofs.YtjnfkomadgfggaaGreatDoor.Pu
set_option linter.unusedSimpArgs false
set_option linter.unusedVariables false
open Go.RowKit Go.Proofs.YtjnfkomadgfggaaGreatDoorW.PrintWords Go.Proofs.YtjnfkomadgfggaaGreatDoor.PR
def NM : List UInt8 := [83, 114, 82, 103, 71, 109, 77, 80, 100, 68, 110, 78]
theorem nmT_forms : ∀ t : Nat, t < 12 → nmT (t : Int) = [NM.getD t 0] ∧ nmT ((t : Int) - 12) = [NM.getD t 0, 44] ∧ nmT ((t : Int) + 12) = [NM.getD t 0, 39] := by decide +kernel
def idxFrom (c : UInt8) : List UInt8 → Int → Int
  | [], _ => -1
  | a :: r, i => if a = c then i else idxFrom c r (i + 1)
theorem idx_NM : ∀ t : Nat, t < 12 → idxFrom (NM.getD t 0) NM 0 = (t : Int) := by decide +kernel
theorem idx_cases (c : UInt8) (l : List UInt8) : ∀ i : Int, 0 ≤ i → idxFrom c l i = -1 ∨ ∃ j : Nat, j < l.length ∧ idxFrom c l i = i + j ∧ l.getD j 0 = c := by
  induction l with
  | nil => intro i h; exact .inl rfl
  | cons a r ih =>
    intro i h
    unfold idxFrom
    by_cases e : a = c
    · rw [if_pos e]
      exact .inr ⟨0, by simp, by simp, by simpa using e⟩
    · rw [if_neg e]
      rcases ih (i + 1) (by omega) with h1 | ⟨j, h1, h2, h3⟩
      · exact .inl h1
      · exact .inr ⟨j + 1, by simpa using h1, by rw [h2]; omega, by simpa using h3⟩
theorem l03Named_l0 (c : UInt8) (d : Nat) : ∀ i : Nat, i + d = 12 → Ev (fun k => spec_l03Named.l0 k (c.toNat : Int) ⟨NM.toArray⟩ (i : Int)) (idxFrom c (NM.drop i) (i : Int)) := by
  have hl : NM.length = 12 := rfl
  induction d with
  | zero =>
    intro i hi
    apply Ev_succ
    simp only [spec_l03Named.l0, size_mk, hl, if_neg (show ¬ ((i : Int) < ((12 : Nat) : Int)) by omega), List.drop_of_length_le (show NM.length ≤ i by omega), idxFrom]
    exact Ev.now _
  | succ d ih =>
    intro i hi
    have hlt : i < NM.length := by omega
    have h2 := ih (i + 1) (by omega)
    rw [show ((i + 1 : Nat) : Int) = (i : Int) + 1 by omega] at h2
    rw [List.drop_eq_getElem_cons hlt]
    apply Ev_succ
    simp only [spec_l03Named.l0, size_mk, hl, if_pos (show (i : Int) < ((12 : Nat) : Int) by omega), if_pos (show (0 : Int) ≤ (i : Int) by omega), bt_mk NM i hlt, wr (show -9223372036854775808 ≤ (i : Int) + 1 by omega) (by omega), idxFrom]
    by_cases e : NM[i] = c
    · simp only [if_pos e, if_pos (show (NM[i].toNat : Int) = (c.toNat : Int) by rw [e])]
      exact Ev.now _
    · simp only [if_neg e, if_neg (show ¬ ((NM[i].toNat : Int) = (c.toNat : Int)) from fun h => e (by rw [← UInt8.toNat_inj]; omega))]
      exact h2
theorem l03Named_eq (c : UInt8) : Ev (fun k => spec_l03Named.f k (c.toNat : Int)) (idxFrom c NM 0) := by
  unfold spec_l03Named.f spec_l03Names.f
  simp only [Option.bind_some]
  exact l03Named_l0 c 12 0 (by omega)
structure InNote (p n : Int) : Prop where
  p0 : -12 ≤ p
  p1 : p ≤ 23
  n0 : 1 ≤ n
  n1 : n ≤ 64
def octR : List UInt8 → Int × List UInt8
  | [] => (0, [])
  | c :: u => if c = 44 then (-12, u) else if c = 39 then (12, u) else (0, c :: u)
def oneR : List UInt8 → Int × Int × Bool
  | [] => (0, 0, false)
  | c :: t =>
    if idxFrom c NM 0 < 0 then (0, 0, false)
    else if (octR t).2 = [] then (idxFrom c NM 0 + (octR t).1, 1, true)
    else if (numR (octR t).2).2 = true ∧ (numR (octR t).2).1 ≠ 1 ∧ 1 ≤ (numR (octR t).2).1 ∧ (numR (octR t).2).1 ≤ 64 then (idxFrom c NM 0 + (octR t).1, (numR (octR t).2).1, true)
    else (0, 0, false)
theorem oneR_true (l : List UInt8) (p n : Int) (h : oneR l = (p, n, true)) : InNote p n ∧ l = noT p n := by
  cases l with
  | nil => simp [oneR] at h
  | cons c t =>
    simp only [oneR] at h
    rcases idx_cases c NM 0 (by omega) with h1 | ⟨j, h1, h2, h3⟩
    · rw [h1, if_pos (by omega)] at h
      simp at h
    · have hj : j < 12 := h1
      rw [h2, if_neg (by omega)] at h
      obtain ⟨f1, f2, f3⟩ := nmT_forms j hj
      have hforms : nmT ((0 : Int) + j + (octR t).1) ++ (octR t).2 = c :: t ∧ -12 ≤ (0 : Int) + j + (octR t).1 ∧ (0 : Int) + j + (octR t).1 ≤ 23 := by
        rw [h3] at f1 f2 f3
        unfold octR
        cases t with
        | nil => simp only; rw [show (0 : Int) + j + 0 = (j : Int) by omega, f1]; exact ⟨rfl, by omega, by omega⟩
        | cons a u =>
          simp only
          by_cases e1 : a = 44
          · rw [if_pos e1, show (0 : Int) + j + -12 = (j : Int) - 12 by omega]
            simp only
            rw [f2, e1]
            exact ⟨rfl, by omega, by omega⟩
          · by_cases e2 : a = 39
            · rw [if_neg e1, if_pos e2]
              simp only
              rw [show (0 : Int) + j + 12 = (j : Int) + 12 by omega, f3, e2]
              exact ⟨rfl, by omega, by omega⟩
            · rw [if_neg e1, if_neg e2]
              simp only
              rw [show (0 : Int) + j + 0 = (j : Int) by omega, f1]
              exact ⟨rfl, by omega, by omega⟩
      obtain ⟨g1, g2, g3⟩ := hforms
      by_cases he : (octR t).2 = []
      · rw [if_pos he] at h
        simp only [Prod.mk.injEq, and_true] at h
        obtain ⟨rfl, rfl⟩ := h
        refine ⟨⟨g2, g3, by omega, by omega⟩, ?_⟩
        unfold noT
        rw [if_pos rfl, ← he, g1]
      · rw [if_neg he] at h
        split at h
        · rename_i hc
          simp only [Prod.mk.injEq, and_true] at h
          obtain ⟨rfl, rfl⟩ := h
          refine ⟨⟨g2, g3, hc.2.2.1, hc.2.2.2⟩, ?_⟩
          unfold noT
          rw [if_neg hc.2.1, ← numR_true (octR t).2 _ (by rw [← hc.1]) (by omega), g1]
        · simp at h
theorem pitch_form (p : Int) (p0 : -12 ≤ p) (p1 : p ≤ 23) : ∃ t : Nat, t < 12 ∧ ((p = (t : Int) ∧ nmT p = [NM.getD t 0]) ∨ (p = (t : Int) - 12 ∧ nmT p = [NM.getD t 0, 44]) ∨ (p = (t : Int) + 12 ∧ nmT p = [NM.getD t 0, 39])) := by
  by_cases h1 : p < 0
  · refine ⟨(p + 12).toNat, by omega, .inr (.inl ⟨by omega, ?_⟩)⟩
    have := (nmT_forms (p + 12).toNat (by omega)).2.1
    rwa [show (((p + 12).toNat : Nat) : Int) - 12 = p by omega] at this
  · by_cases h2 : p < 12
    · refine ⟨p.toNat, by omega, .inl ⟨by omega, ?_⟩⟩
      have := (nmT_forms p.toNat (by omega)).1
      rwa [show ((p.toNat : Nat) : Int) = p by omega] at this
    · refine ⟨(p - 12).toNat, by omega, .inr (.inr ⟨by omega, ?_⟩)⟩
      have := (nmT_forms (p - 12).toNat (by omega)).2.2
      rwa [show (((p - 12).toNat : Nat) : Int) + 12 = p by omega] at this
theorem oneR_noT (p n : Int) (h : InNote p n) : oneR (noT p n) = (p, n, true) := by
  obtain ⟨t, ht, hf⟩ := pitch_form p h.p0 h.p1
  have hidx := idx_NM t ht
  have hrest : ∀ u : List UInt8, u = (if n = 1 then [] else Lib.itoa n) → octR u = (0, u) ∧ (u = [] → n = 1) ∧ (u ≠ [] → n ≠ 1 ∧ numR u = (n, true)) := by
    intro u hu
    by_cases h1 : n = 1
    · rw [if_pos h1] at hu
      subst hu
      exact ⟨rfl, fun _ => h1, fun h => absurd rfl h⟩
    · rw [if_neg h1] at hu
      have hd := dec_digits n.toNat
      have hne := dec_ne n.toNat
      rw [itoa_nat n (by have := h.n0; omega)] at hu
      have hnum := numR_itoa n (by have := h.n0; omega) (by have := h.n1; omega)
      rw [itoa_nat n (by have := h.n0; omega)] at hnum
      rw [← hu] at hd hne hnum
      refine ⟨?_, fun e => absurd e hne, fun _ => ⟨h1, hnum⟩⟩
      cases u with
      | nil => rfl
      | cons a v =>
        have ha := hd a (by simp)
        simp only [octR]
        rw [if_neg (fun e => by rw [e] at ha; exact absurd ha.1 (by decide)), if_neg (fun e => by rw [e] at ha; exact absurd ha.1 (by decide))]
  generalize hu : (if n = 1 then ([] : List UInt8) else Lib.itoa n) = u at hrest
  obtain ⟨r1, r2, r3⟩ := hrest u rfl
  have key : ∀ (i : Int) (v : List UInt8) (o : Int), octR v = (o, u) → idxFrom (NM.getD t 0) NM 0 = i → 0 ≤ i → i + o = p → oneR (NM.getD t 0 :: v) = (p, n, true) := by
    intro i v o ho hi i0 hp
    simp only [oneR]
    rw [hi, ho, if_neg (by omega)]
    simp only
    by_cases hue : u = []
    · rw [if_pos hue, hp, r2 hue]
    · obtain ⟨g1, g2⟩ := r3 hue
      rw [if_neg hue, g2]
      simp only
      rw [if_pos ⟨trivial, g1, h.n0, h.n1⟩, hp]
  have hnot : noT p n = nmT p ++ u := by unfold noT; rw [hu]
  rw [hnot]
  rcases hf with ⟨e1, e2⟩ | ⟨e1, e2⟩ | ⟨e1, e2⟩
  · rw [e2]
    exact key t u 0 r1 hidx (by omega) (by omega)
  · rw [e2]
    exact key t (44 :: u) (-12) (by simp [octR]) hidx (by omega) (by omega)
  · rw [e2]
    exact key t (39 :: u) 12 (by simp [octR]) hidx (by omega) (by omega)
theorem l09ReadOne_eq (l : List UInt8) (hl : l.length ≤ 1000000) : Ev (fun k => spec_l09ReadOne.f k ⟨l.toArray⟩) (oneR l) := by
  have j0f : Ev (fun k => spec_l09ReadOne.j0 k ⟨l.toArray⟩ true) (0, 0, false) := by
    apply Ev_succ
    simp only [spec_l09ReadOne.j0, if_true]
    exact Ev.now _
  unfold spec_l09ReadOne.f
  cases l with
  | nil =>
    simp only [mk_toList, if_true, oneR]
    exact j0f
  | cons c t =>
    have hlen : (c :: t).length = t.length + 1 := rfl
    have hb0 : bt ⟨(c :: t).toArray⟩ 0 = (c.toNat : Int) := bt_mk (c :: t) 0 (by simp)
    have hpos : (0 : Int) < (((⟨(c :: t).toArray⟩ : ByteArray).size : Nat) : Int) := by rw [size_mk]; omega
    have hpos1 : (1 : Int) ≤ (((⟨(c :: t).toArray⟩ : ByteArray).size : Nat) : Int) := by rw [size_mk]; omega
    simp only [mk_toList, if_neg (show ¬ (c :: t = []) by simp), if_pos hpos, hb0]
    refine Ev.bind (l03Named_eq c) ?_
    simp only [oneR]
    by_cases hi : idxFrom c NM 0 < 0
    · rw [if_pos hi, decide_eq_true hi]
      exact j0f
    · rw [if_neg hi, decide_eq_false hi]
      have hi23 : idxFrom c NM 0 ≤ 11 := by
        rcases idx_cases c NM 0 (by omega) with h1 | ⟨j, h1, h2, h3⟩
        · omega
        · have hj : j < 12 := h1
          omega
      have hex : (⟨(c :: t).toArray⟩ : ByteArray).extract 1 (c :: t).length = ⟨t.toArray⟩ := by
        rw [extract_mk]
        simp
      have hj2 : ∀ (q : Int) (u : List UInt8), u.length ≤ 1000000 → Ev (fun k => spec_l09ReadOne.j2 k q ⟨u.toArray⟩) (if u = [] then (q, 1, true) else if (numR u).2 = true ∧ (numR u).1 ≠ 1 ∧ 1 ≤ (numR u).1 ∧ (numR u).1 ≤ 64 then (q, (numR u).1, true) else (0, 0, false)) := by
        intro q u hu
        apply Ev_succ
        by_cases he : u = []
        · simp only [spec_l09ReadOne.j2, mk_toList, if_pos he]
          exact Ev.now _
        · simp only [spec_l09ReadOne.j2, mk_toList, if_neg he]
          refine Ev.bind (l01Number_eq u (by omega)) ?_
          cases h2 : (numR u).2 with
          | false => simp only [Bool.false_eq_true, if_false, false_and]; exact Ev.now _
          | true =>
            simp only [if_true, true_and]
            by_cases h3 : (numR u).1 = 1
            · simp only [if_pos h3, h3, ne_eq, not_true_eq_false, false_and, if_false]
              exact Ev.now _
            · simp only [if_neg h3, spec_l09Length.f, l00In_eq, Option.bind_some]
              by_cases h4 : 1 ≤ (numR u).1 ∧ (numR u).1 ≤ 64
              · simp only [decide_eq_true h4, if_true, if_pos (show (numR u).1 ≠ 1 ∧ 1 ≤ (numR u).1 ∧ (numR u).1 ≤ 64 from ⟨h3, h4⟩)]
                exact Ev.now _
              · simp only [decide_eq_false h4, Bool.false_eq_true, if_false, if_neg (show ¬ ((numR u).1 ≠ 1 ∧ 1 ≤ (numR u).1 ∧ (numR u).1 ≤ 64) from fun h => h4 h.2)]
                exact Ev.now _
      apply Ev_succ
      simp only [spec_l09ReadOne.j0, Bool.false_eq_true, if_false, if_pos hpos, if_pos hpos1, hb0]
      refine Ev.bind (l03Named_eq c) ?_
      simp only [size_mk, hex, mk_toList]
      generalize idxFrom c NM 0 = i0 at *
      cases t with
      | nil =>
        simp only [if_true]
        apply Ev_succ
        simp only [spec_l09ReadOne.j1, Bool.false_eq_true, if_false, mk_toList, if_true, octR, Int.add_zero]
        have := hj2 i0 [] (by simp)
        simpa using this
      | cons a u =>
        have hlu : u.length ≤ 1000000 := by simp only [List.length_cons] at hl; omega
        have hba : bt ⟨(a :: u).toArray⟩ 0 = (a.toNat : Int) := bt_mk (a :: u) 0 (by simp)
        have hau : (a :: u).length = u.length + 1 := rfl
        have hex2 : (⟨(a :: u).toArray⟩ : ByteArray).extract 1 (⟨(a :: u).toArray⟩ : ByteArray).size = ⟨u.toArray⟩ := by
          rw [extract_mk, size_mk]
          simp
        have e44 : a = 44 ↔ (a.toNat : Int) = 44 := ⟨fun e => by rw [e]; rfl, fun e => by rw [← UInt8.toNat_inj]; have : (44 : UInt8).toNat = 44 := rfl; omega⟩
        have e39 : a = 39 ↔ (a.toNat : Int) = 39 := ⟨fun e => by rw [e]; rfl, fun e => by rw [← UInt8.toNat_inj]; have : (39 : UInt8).toNat = 39 := rfl; omega⟩
        simp only [if_neg (show ¬ (a :: u = []) by simp), if_pos (show (0 : Int) < (((a :: u).length : Nat) : Int) by omega), hba]
        apply Ev_succ
        by_cases h1 : a = 44
        · have hq := hj2 (i0 + -12) u hlu
          simp only [spec_l09ReadOne.j1, show ((a.toNat : Int) == 44) = true from beq_iff_eq.2 (e44.1 h1), if_true, size_mk, if_pos (show (1 : Int) ≤ (((a :: u).length : Nat) : Int) by omega), octR, if_pos h1]
          rw [wr (by omega) (by omega), show i0 - 12 = i0 + -12 by omega]
          rw [size_mk] at hex2
          rw [hex2]
          exact hq
        · by_cases h2 : a = 39
          · have hq := hj2 (i0 + 12) u hlu
            simp only [spec_l09ReadOne.j1, show ((a.toNat : Int) == 44) = false from beq_eq_false_iff_ne.2 (fun e => h1 (e44.2 e)), Bool.false_eq_true, if_false, mk_toList, if_neg (show ¬ (a :: u = []) by simp), size_mk, if_pos (show (0 : Int) < (((a :: u).length : Nat) : Int) by omega), hba, if_pos (e39.1 h2), if_pos (show (1 : Int) ≤ (((a :: u).length : Nat) : Int) by omega), octR, if_neg h1, if_pos h2]
            rw [wr (by omega) (by omega)]
            rw [size_mk] at hex2
            rw [hex2]
            exact hq
          · have hq := hj2 (i0 + 0) (a :: u) (by omega)
            simp only [spec_l09ReadOne.j1, show ((a.toNat : Int) == 44) = false from beq_eq_false_iff_ne.2 (fun e => h1 (e44.2 e)), Bool.false_eq_true, if_false, mk_toList, if_neg (show ¬ (a :: u = []) by simp), size_mk, if_pos (show (0 : Int) < (((a :: u).length : Nat) : Int) by omega), hba, if_neg (fun e => h2 (e39.2 e)), octR, if_neg h1, if_neg h2]
            rw [Int.add_zero] at hq ⊢
            exact hq
end Go.Proofs.YtjnfkomadgfggaaGreatDoor.Pu
end
section
namespace Go.Proofs.YtjnfkomadgfggaaGreatDoor.Pu
set_option linter.unusedSimpArgs false
set_option linter.unusedVariables false
open Go.RowKit Go.Proofs.YtjnfkomadgfggaaGreatDoorW.PrintWords Go.Proofs.YtjnfkomadgfggaaGreatDoor.PR
theorem rd_mem (l : List Int) (i : Nat) (h : i < l.length) : rd l (i : Int) = l[i] := by
  simp [rd, List.getD_eq_getElem?_getD, List.getElem?_eq_getElem h]
end Go.Proofs.YtjnfkomadgfggaaGreatDoor.Pu
end
section
namespace Go.Proofs.YtjnfkomadgfggaaGreatDoor.Pu
set_option linter.unusedSimpArgs false
set_option linter.unusedVariables false
open Go.RowKit Go.Proofs.YtjnfkomadgfggaaGreatDoorW.PrintWords Go.Proofs.YtjnfkomadgfggaaGreatDoor.PR
def DG : List UInt8 := [48, 49, 50, 51, 52, 53, 54, 55, 56, 57]
theorem DG_isD (c : UInt8) : DG.contains c = isD c := by
  have h : ∀ n : Nat, n < 256 → DG.contains (UInt8.ofNat n) = isD (UInt8.ofNat n) := by decide +kernel
  have := h c.toNat (UInt8.toNat_lt c)
  rwa [UInt8.ofNat_toNat] at this
theorem dropWhile_all {p : UInt8 → Bool} (x y : List UInt8) (h : ∀ c ∈ x, p c = true) : (x ++ y).dropWhile p = y.dropWhile p := by
  induction x with
  | nil => rfl
  | cons a r ih =>
    rw [List.cons_append, List.dropWhile_cons, if_pos (h a (by simp))]
    exact ih (fun c hc => h c (by simp [hc]))
theorem trim_tail (x d : List UInt8) (hd : ∀ c ∈ d, isD c = true) (hx : ∀ c, x.getLast? = some c → isD c = false) : Lib.trimRightS (x ++ d) DG = x := by
  unfold Lib.trimRightS
  rw [List.reverse_append, dropWhile_all _ _ (fun c hc => by rw [DG_isD]; exact hd c (by simpa using hc))]
  cases hr : x.reverse with
  | nil =>
    have : x = [] := by simpa using hr
    subst this
    rfl
  | cons a r =>
    have ha : x.getLast? = some a := by
      rw [← List.head?_reverse, hr]
      rfl
    rw [List.dropWhile_cons, if_neg (by rw [DG_isD, hx a ha]; decide), ← hr, List.reverse_reverse]
theorem trim_len (l : List UInt8) : (Lib.trimRightS l DG).length ≤ l.length := by
  unfold Lib.trimRightS
  rw [List.length_reverse]
  have := (List.dropWhile_sublist (fun c => DG.contains c) (l := l.reverse)).length_le
  rwa [List.length_reverse] at this
theorem NM_last : ∀ t : Nat, t < 12 → isD (NM.getD t 0) = false := by decide +kernel
theorem nmT_last (p : Int) (p0 : -12 ≤ p) (p1 : p ≤ 23) : ∀ c, (nmT p).getLast? = some c → isD c = false := by
  obtain ⟨t, ht, hf⟩ := pitch_form p p0 p1
  intro c hc
  rcases hf with ⟨_, e⟩ | ⟨_, e⟩ | ⟨_, e⟩
  · rw [e] at hc
    simp only [List.getLast?_singleton, Option.some.injEq] at hc
    rw [← hc]
    exact NM_last t ht
  · rw [e] at hc
    have : (44 : UInt8) = c := by simpa using hc
    rw [← this]
    decide
  · rw [e] at hc
    have : (39 : UInt8) = c := by simpa using hc
    rw [← this]
    decide
theorem trim_noT (p n : Int) (h : InNote p n) : Lib.trimRightS (noT p n) DG = nmT p := by
  unfold noT
  refine trim_tail _ _ (fun c hc => ?_) (nmT_last p h.p0 h.p1)
  split at hc
  · simp at hc
  · rw [itoa_nat n (by have := h.n0; omega)] at hc
    exact decide_eq_true (dec_digits _ c hc)
theorem nmT_inj (p q : Int) (p0 : -12 ≤ p) (p1 : p ≤ 23) (q0 : -12 ≤ q) (q1 : q ≤ 23) (h : nmT p = nmT q) : p = q := by
  have h1 := oneR_noT p 1 ⟨p0, p1, by omega, by omega⟩
  have h2 := oneR_noT q 1 ⟨q0, q1, by omega, by omega⟩
  unfold noT at h1 h2
  rw [h] at h1
  rw [h1] at h2
  exact (Prod.mk.inj h2).1
theorem leastP_true (P : Int → Bool) (n : Nat) : ∀ lo r : Int, leastP P lo n = (r, true) → P r = true ∧ lo ≤ r ∧ r < lo + n := by
  induction n with
  | zero => intro lo r h; simp [leastP] at h
  | succ n ih =>
    intro lo r h
    unfold leastP at h
    by_cases hp : P lo = true
    · rw [if_pos hp] at h
      injection h with h1 _
      subst h1
      exact ⟨hp, by omega, by omega⟩
    · rw [if_neg hp] at h
      obtain ⟨a, b, c⟩ := ih (lo + 1) r h
      exact ⟨a, by omega, by omega⟩
theorem leastP_some (P : Int → Bool) (n : Nat) : ∀ lo q : Int, lo ≤ q → q < lo + n → P q = true → ∃ r, leastP P lo n = (r, true) := by
  induction n with
  | zero => intro lo q h1 h2; omega
  | succ n ih =>
    intro lo q h1 h2 hq
    unfold leastP
    by_cases hp : P lo = true
    · exact ⟨lo, by rw [if_pos hp]⟩
    · rw [if_neg hp]
      have : q ≠ lo := fun e => hp (by rw [← e]; exact hq)
      exact ih (lo + 1) q (by omega) (by omega) hq
def pnR (x : List UInt8) : Int × Bool := leastP (fun p => (toneB (p % 12) ++ octB (p / 12)).toList == x) (-12) 36
theorem pn_eq (x : List UInt8) : impl_pitchNamed.f ⟨x.toArray⟩ = some (pnR x) := by
  unfold impl_pitchNamed.f pnR
  rw [mk_toList]
theorem nm_list (p : Int) : (toneB (p % 12) ++ octB (p / 12)).toList = nmT p := by
  rw [nmT_mk, mk_toList]
theorem pn_true (x : List UInt8) (r : Int) (h : pnR x = (r, true)) : nmT r = x ∧ -12 ≤ r ∧ r ≤ 23 := by
  obtain ⟨a, b, c⟩ := leastP_true _ 36 (-12) r h
  rw [nm_list, beq_iff_eq] at a
  exact ⟨a, b, by omega⟩
theorem pn_nmT (p : Int) (p0 : -12 ≤ p) (p1 : p ≤ 23) : pnR (nmT p) = (p, true) := by
  obtain ⟨r, hr⟩ := leastP_some (fun q => (toneB (q % 12) ++ octB (q / 12)).toList == nmT p) 36 (-12) p p0 (by omega) (by rw [nm_list, beq_iff_eq])
  obtain ⟨a, b, c⟩ := pn_true (nmT p) r hr
  have := nmT_inj r p b c p0 p1 a
  subst this
  exact hr
theorem pn_nil : (pnR []).2 = false := by
  cases h : (pnR []).2 with
  | false => rfl
  | true =>
    obtain ⟨a, b, c⟩ := pn_true [] (pnR []).1 (by rw [← h])
    obtain ⟨t, ht, hf⟩ := pitch_form (pnR []).1 b c
    rcases hf with ⟨_, e⟩ | ⟨_, e⟩ | ⟨_, e⟩ <;> (rw [e] at a; cases a)
theorem okN_iff (p n : Int) : okNote (⟨p, n⟩ : S72) = true ↔ InNote p n := by
  unfold okNote
  rw [Bool.and_eq_true, decide_eq_true_eq, decide_eq_true_eq]
  exact ⟨fun h => ⟨h.1.1, h.1.2, h.2.1, h.2.2⟩, fun h => ⟨⟨h.p0, h.p1⟩, h.n0, h.n1⟩⟩
theorem MelodyText_one (p n : Int) : Ev (fun k => impl_MelodyText.f k [(⟨p, n⟩ : S72)]) ⟨(if okNote (⟨p, n⟩ : S72) = true then noT p n else []).toArray⟩ := by
  have hv := ValidMelody_eq [(⟨p, n⟩ : S72)] (by simp)
  have hm : okMel [(⟨p, n⟩ : S72)] = okNote (⟨p, n⟩ : S72) := by simp [okMel]
  rw [hm] at hv
  unfold impl_MelodyText.f
  refine Ev.bind hv ?_
  cases hk : okNote (⟨p, n⟩ : S72) with
  | false => simp only [Bool.false_eq_true, if_false]; exact Ev.now _
  | true =>
    have hin := (okN_iff p n).1 hk
    have hl1 := nmT_length p hin.p0 hin.p1
    have hl2 := itoa_length n (by have := hin.n0; omega) (by have := hin.n1; omega)
    have hl3 := noT_length p n hin.p0 hin.p1 hin.n0 hin.n1
    have e0 : rd_T72 [(⟨p, n⟩ : S72)] 0 = ⟨p, n⟩ := rfl
    have el : (([(⟨p, n⟩ : S72)]).length : Int) = 1 := rfl
    have e2 : wrap64 ((0 : Int) + 1) = 1 := by rw [wr (by omega) (by omega)]; omega
    have hend : Ev (fun k => impl_MelodyText.l0 k [(⟨(noT p n).toArray⟩ : ByteArray)] [(⟨p, n⟩ : S72)] 1 1) ⟨(noT p n).toArray⟩ := by
      apply Ev_succ
      have ej : Lib.join ([(⟨(noT p n).toArray⟩ : ByteArray)].map (·.data.toList)) (⟨#[32]⟩ : ByteArray).data.toList = noT p n := by
        simp [Lib.join, List.intercalate]
      simp only [impl_MelodyText.l0, if_neg (show ¬ ((1 : Int) < 1) by omega)]
      unfold strings_Join.f
      rw [ej]
      simp only [if_pos (show (noT p n).length ≤ 140737488355328 ∧ ([(⟨(noT p n).toArray⟩ : ByteArray)]).length ≤ 140737488355328 from ⟨by omega, by simp⟩), Option.bind_some]
      exact Ev.now _
    simp only [if_true, el, if_neg (show ¬ ((1 : Int) = 0) by omega)]
    apply Ev_succ
    simp only [impl_MelodyText.l0, el, if_pos (show (0 : Int) < 1 by omega), if_pos (show (0 : Int) ≤ 0 by omega), e0, pitchText_eq p hin.p0 hin.p1, Option.bind_some, e2, List.length_nil, if_pos (show 0 < 8796093022208 by omega), List.nil_append]
    unfold noT at hend ⊢
    by_cases h1 : n = 1
    · simp only [if_pos h1, List.append_nil] at hend ⊢
      exact hend
    · simp only [if_neg h1] at hend ⊢
      simp only [Decimal_eq n (show -9223372036854775808 ≤ n by have := hin.n0; omega) (by have := hin.n1; omega), Option.bind_some, size_mk, app_mk, if_pos (show (nmT p).length + (Lib.itoa n).length ≤ 9223372036854775807 by omega)]
      exact hend
theorem SplitN_one (l : List UInt8) (hl : l.length ≤ 1000000) (h : (32 : UInt8) ∉ l) : strings_SplitN.f ⟨l.toArray⟩ ⟨#[32]⟩ 49 = some [⟨l.toArray⟩] := by
  unfold strings_SplitN.f
  rw [if_pos ⟨by rw [size_mk]; omega, by decide, by omega, by omega⟩]
  have hx : Lib.indexB ⟨l.toArray⟩ ⟨#[32]⟩ = -1 := by
    have := index_no 32 l h
    unfold Lib.indexB
    simpa using this
  rw [Lib.splitB_miss _ _ _ _ hx]
theorem readMel (l : List UInt8) (hl : l.length ≤ 1000000) (h32 : (32 : UInt8) ∉ l) : ∃ R, Ev (fun k => impl_ReadMelody.f k ⟨l.toArray⟩) R ∧
    ((oneR l).2.2 = true → R = ([⟨(oneR l).1, (oneR l).2.1⟩], true)) ∧ ((oneR l).2.2 = false → R.2 = false ∨ R.1.length ≠ 1) := by
  unfold impl_ReadMelody.f
  by_cases h45 : l = [45]
  · refine ⟨([], true), ?_, ?_, fun _ => .inr (by simp)⟩
    · simp only [mk_toList, if_pos h45]
      exact Ev.now _
    · intro h
      rw [h45] at h
      have : (oneR [45]).2.2 = false := by decide +kernel
      rw [this] at h
      cases h
  · have hst : strings_TrimRight.f ⟨l.toArray⟩ ⟨#[48, 49, 50, 51, 52, 53, 54, 55, 56, 57]⟩ = some ⟨(Lib.trimRightS l DG).toArray⟩ := by
      unfold strings_TrimRight.f
      rw [if_pos ⟨by rw [size_mk]; omega, by decide, by decide⟩]
      rfl
    have htl := trim_len l
    have hfail : ∀ g : Nat → Option (List S72 × Bool), Ev g ([], false) → (oneR l).2.2 = false → ∃ R, Ev g R ∧ ((oneR l).2.2 = true → R = ([⟨(oneR l).1, (oneR l).2.1⟩], true)) ∧ ((oneR l).2.2 = false → R.2 = false ∨ R.1.length ≠ 1) :=
      fun g hg ho => ⟨_, hg, fun h => (by rw [ho] at h; cases h), fun _ => .inl rfl⟩
    have hone : ∀ p n, oneR l = (p, n, true) → Lib.trimRightS l DG = nmT p ∧ InNote p n ∧ l = noT p n := by
      intro p n h
      obtain ⟨a, b⟩ := oneR_true l p n h
      refine ⟨?_, a, b⟩
      rw [b]
      exact trim_noT p n a
    have hof : (oneR l).2.2 = false ∨ ∃ p n, oneR l = (p, n, true) := by
      cases ho : (oneR l).2.2 with
      | false => exact .inl rfl
      | true => exact .inr ⟨(oneR l).1, (oneR l).2.1, by rw [← ho]⟩
    have e0 : rdOf ByteArray.empty [(⟨l.toArray⟩ : ByteArray)] 0 = ⟨l.toArray⟩ := rfl
    have el : (([(⟨l.toArray⟩ : ByteArray)]).length : Int) = 1 := rfl
    have e2 : wrap64 ((0 : Int) + 1) = 1 := by rw [wr (by omega) (by omega)]; omega
    generalize hnm : Lib.trimRightS l DG = name at *
    have hlast : ∀ r n : Int, pnR name = (r, true) → (∀ p m, oneR l = (p, m, true) → n = m) → ∃ R, Ev (fun k => impl_ReadMelody.l0 k ⟨l.toArray⟩ [(⟨r, n⟩ : S72)] [(⟨l.toArray⟩ : ByteArray)] 1 1) R ∧ ((oneR l).2.2 = true → R = ([⟨(oneR l).1, (oneR l).2.1⟩], true)) ∧ ((oneR l).2.2 = false → R.2 = false ∨ R.1.length ≠ 1) := by
      intro r n hr hn
      obtain ⟨q1, q2, q3⟩ := pn_true name r hr
      have hmt := MelodyText_one r n
      have hrun : ∀ t : List UInt8, Ev (fun k => impl_MelodyText.f k [(⟨r, n⟩ : S72)]) ⟨t.toArray⟩ → Ev (fun k => impl_ReadMelody.l0 k ⟨l.toArray⟩ [(⟨r, n⟩ : S72)] [(⟨l.toArray⟩ : ByteArray)] 1 1) (if t = l then ([(⟨r, n⟩ : S72)], true) else ([], false)) := by
        intro t ht
        apply Ev_succ
        simp only [impl_ReadMelody.l0, if_neg (show ¬ ((1 : Int) < 1) by omega)]
        refine Ev.bind ht ?_
        simp only [mk_toList]
        by_cases e : t = l
        · simp only [if_pos e]; exact Ev.now _
        · simp only [if_neg e]; exact Ev.now _
      have h3 := hrun _ hmt
      by_cases hk : okNote (⟨r, n⟩ : S72) = true
      · rw [if_pos hk] at h3
        have hin := (okN_iff r n).1 hk
        by_cases e : noT r n = l
        · rw [if_pos e] at h3
          have ho : oneR l = (r, n, true) := by rw [← e]; exact oneR_noT r n hin
          refine ⟨_, h3, fun _ => (by rw [ho]), fun h => (by rw [ho] at h; cases h)⟩
        · rw [if_neg e] at h3
          refine hfail _ h3 ?_
          rcases hof with h | ⟨p, m, ho⟩
          · exact h
          · obtain ⟨a, b, c⟩ := hone p m ho
            have : r = p := nmT_inj r p q2 q3 b.p0 b.p1 (by rw [q1, a])
            subst this
            rw [hn r m ho] at e
            exact absurd c.symm e
      · rw [if_neg hk] at h3
        by_cases e : ([] : List UInt8) = l
        · exfalso
          rw [← e] at hnm
          have : name = [] := by rw [← hnm]; rfl
          rw [this] at hr
          have h4 := pn_nil
          rw [hr] at h4
          cases h4
        · rw [if_neg e] at h3
          refine hfail _ h3 ?_
          rcases hof with h | ⟨p, m, ho⟩
          · exact h
          · obtain ⟨a, b, c⟩ := hone p m ho
            have : r = p := nmT_inj r p q2 q3 b.p0 b.p1 (by rw [q1, a])
            subst this
            rw [hn r m ho] at hk
            exact absurd ((okN_iff r m).2 b) hk
    have hbad : (pnR name).2 = false → (oneR l).2.2 = false := by
      intro hp
      rcases hof with h | ⟨p, m, ho⟩
      · exact h
      · obtain ⟨a, b, c⟩ := hone p m ho
        rw [a, pn_nmT p b.p0 b.p1] at hp
        cases hp
    have hstart : ∀ R, Ev (fun k => impl_ReadMelody.l0 k ⟨l.toArray⟩ [] [(⟨l.toArray⟩ : ByteArray)] 1 0) R → Ev (fun k => if (⟨l.toArray⟩ : ByteArray).toList = [45] then some (([] : List S72), true) else (strings_SplitN.f ⟨l.toArray⟩ ⟨#[32]⟩ 49).bind fun t177 => impl_ReadMelody.l0 k ⟨l.toArray⟩ [] t177 (t177.length : Int) 0) R := by
      intro R hR
      simp only [mk_toList, if_neg h45, SplitN_one l hl h32, Option.bind_some, el]
      exact hR
    cases hp : (pnR name).2 with
    | false =>
      obtain ⟨R, hR, h1, h2⟩ := hfail (fun k => impl_ReadMelody.l0 k ⟨l.toArray⟩ [] [(⟨l.toArray⟩ : ByteArray)] 1 0) (by
        apply Ev_succ
        simp only [impl_ReadMelody.l0, if_pos (show (0 : Int) < 1 by omega), if_pos (show (0 : Int) ≤ 0 by omega), el, e0, hst, pn_eq, Option.bind_some, mk_toList, hp, Bool.false_eq_true, if_false, size_mk]
        by_cases e : name = l
        · simp only [if_pos e]
          exact Ev.now _
        · simp only [if_neg e, if_pos (show (0 : Int) ≤ (name.length : Int) by omega), if_pos (show (name.length : Int) ≤ (l.length : Int) by omega), extract_mk, Int.toNat_natCast]
          rw [ReadDecimal_eq _ (by rw [List.length_take, List.length_drop]; omega)]
          simp only [Option.bind_some]
          exact Ev.now _) (hbad hp)
      exact ⟨R, hstart R hR, h1, h2⟩
    | true =>
      have hpn : pnR name = ((pnR name).1, true) := by rw [← hp]
      generalize (pnR name).1 = r at hpn
      by_cases e : name = l
      · obtain ⟨R, hR, h1, h2⟩ := hlast r 1 hpn (fun p m ho => by
          obtain ⟨a, b, c⟩ := hone p m ho
          rw [e] at a
          rw [a] at ho
          have h5 := oneR_noT p 1 ⟨b.p0, b.p1, by omega, by omega⟩
          unfold noT at h5
          rw [if_pos rfl, List.append_nil, ho] at h5
          exact ((Prod.mk.inj (Prod.mk.inj h5).2).1).symm)
        refine ⟨R, hstart R ?_, h1, h2⟩
        apply Ev_succ
        simp only [impl_ReadMelody.l0, if_pos (show (0 : Int) < 1 by omega), if_pos (show (0 : Int) ≤ 0 by omega), el, e0, hst, pn_eq, Option.bind_some, mk_toList, hpn, if_true, if_pos e, List.length_nil, if_pos (show 0 < 8796093022208 by omega), List.nil_append, e2]
        exact hR
      · have hex : (⟨l.toArray⟩ : ByteArray).extract name.length l.length = ⟨(l.drop name.length).toArray⟩ := by
          rw [extract_mk, List.take_of_length_le (by rw [List.length_drop]; omega)]
        obtain ⟨R, hR, h1, h2⟩ := hlast r (readDecB ⟨(l.drop name.length).toArray⟩).1 hpn (fun p m ho => by
          obtain ⟨a, b, c⟩ := hone p m ho
          have hm1 : m ≠ 1 := by
            intro h
            apply e
            rw [a, c, h]
            simp [noT]
          have hd : l.drop name.length = Lib.itoa m := by
            rw [c, a]
            unfold noT
            rw [if_neg hm1, List.drop_left']
            rfl
          rw [hd, readDec_itoa m (by have := b.n0; omega) (by have := b.n1; omega)])
        refine ⟨R, hstart R ?_, h1, h2⟩
        apply Ev_succ
        simp only [impl_ReadMelody.l0, if_pos (show (0 : Int) < 1 by omega), if_pos (show (0 : Int) ≤ 0 by omega), el, e0, hst, pn_eq, Option.bind_some, mk_toList, hpn, if_true, if_neg e, size_mk, if_pos (show (0 : Int) ≤ (name.length : Int) by omega), if_pos (show (name.length : Int) ≤ (l.length : Int) by omega), Int.toNat_natCast, hex]
        rw [ReadDecimal_eq _ (by rw [List.length_drop]; omega)]
        simp only [Option.bind_some, List.length_nil, if_pos (show 0 < 8796093022208 by omega), List.nil_append, e2]
        exact hR
end Go.Proofs.YtjnfkomadgfggaaGreatDoor.Pu
end
section
namespace Go.Proofs.YtjnfkomadgfggaaGreatDoor.Pu
set_option linter.unusedSimpArgs false
set_option linter.unusedVariables false
open Go.RowKit Go.Proofs.YtjnfkomadgfggaaGreatDoorW.PrintWords Go.Proofs.YtjnfkomadgfggaaGreatDoor.PR
def addLast (s : List Int) (n : Int) : List Int := s.set (s.length - 1) (wrap64 (rd s ((s.length : Int) - 1) + n))
theorem addLast_length (s : List Int) (n : Int) : (addLast s n).length = s.length := by simp [addLast]
def isBar (w : List UInt8) : Bool := w == [124] || w == [124, 124]
def tieB (w : List UInt8) : Bool := w.head? == some 126
def bodyB (w : List UInt8) : List UInt8 := if tieB w = true then w.tail else w
def tok : List (List UInt8) → Option Int → List Int → Option (List Int)
  | [], _, s => some s
  | w :: r, lp, s =>
    if isBar w = true then tok r lp (s ++ [0])
    else if (oneR (bodyB w)).2.2 = false ∨ (tieB w = true ∧ lp ≠ some (oneR (bodyB w)).1) then none
    else tok r (some (oneR (bodyB w)).1) (addLast s (oneR (bodyB w)).2.1)
def lastP (out : List S72) : Option Int := out.getLast?.map fun x => x.f0
theorem splitB_no (b : UInt8) (l : List UInt8) : ∀ w ∈ splitB b l, b ∉ w ∧ w.length ≤ l.length := by
  induction l with
  | nil => intro w hw; simp only [splitB, List.mem_singleton] at hw; subst hw; simp
  | cons c r ih =>
    intro w hw
    unfold splitB at hw
    by_cases hc : c = b
    · rw [if_pos hc] at hw
      rcases List.mem_cons.1 hw with h | h
      · subst h
        simp
      · obtain ⟨a, b'⟩ := ih w h
        exact ⟨a, by rw [List.length_cons]; omega⟩
    · rw [if_neg hc] at hw
      cases hs : splitB b r with
      | nil => exact absurd hs (splitB_ne b r)
      | cons x xs =>
        rw [hs] at hw ih
        simp only [headOn] at hw
        rcases List.mem_cons.1 hw with h | h
        · subst h
          obtain ⟨a, b'⟩ := ih x (by simp)
          refine ⟨?_, by simp only [List.singleton_append, List.length_cons]; omega⟩
          simp only [List.singleton_append, List.mem_cons, not_or]
          exact ⟨fun e => hc e.symm, a⟩
        · obtain ⟨a, b'⟩ := ih w (by simp [h])
          exact ⟨a, by rw [List.length_cons]; omega⟩
theorem rdOf_mk (W : List (List UInt8)) (i : Nat) (h : i < W.length) : rdOf ByteArray.empty (W.map mkB) (i : Int) = ⟨W[i].toArray⟩ := by
  simp [rdOf, List.getD_eq_getElem?_getD, List.getElem?_map, List.getElem?_eq_getElem h, mkB]
theorem body_len (w : List UInt8) : (bodyB w).length ≤ w.length := by
  unfold bodyB
  split
  · simp
  · omega
theorem body_no (w : List UInt8) (h : (32 : UInt8) ∉ w) : (32 : UInt8) ∉ bodyB w := by
  unfold bodyB
  split
  · exact fun e => h (List.mem_of_mem_tail e)
  · exact h
theorem tokens_l0 (W : List (List UInt8)) (hW : W.length ≤ 100000) (hw : ∀ w ∈ W, w.length ≤ 1000000) (d : Nat) : ∀ (i : Nat) (out : List S72) (s : List Int), i + d = W.length → 1 ≤ s.length → s.length + d ≤ 1000000 → out.length + d ≤ 1000000 →
    ∃ r, Ev (fun k => spec_l25Tokens.l0 k out s (W.map mkB) (i : Int)) r ∧ (match tok (W.drop i) (lastP out) s with | some s' => r.2 = (s', true) | none => r.2 = ([], false)) := by
  induction d with
  | zero =>
    intro i out s hi h1 h2 h3
    refine ⟨(out, s, true), ?_, ?_⟩
    · apply Ev_succ
      simp only [spec_l25Tokens.l0, if_neg (show ¬ ((i : Int) < ((W.map mkB).length : Int)) by rw [List.length_map]; omega)]
      exact Ev.now _
    · rw [List.drop_of_length_le (by omega)]
      rfl
  | succ d ih =>
    intro i out s hi h1 h2 h3
    have hlt : i < W.length := by omega
    have hwl := hw W[i] (List.getElem_mem hlt)
    have ei : (i : Int) < ((W.map mkB).length : Int) := by rw [List.length_map]; omega
    have e0 : (0 : Int) ≤ (i : Int) := by omega
    have e6 : wrap64 ((i : Int) + 1) = ((i + 1 : Nat) : Int) := by rw [wr (by omega) (by omega)]; omega
    have hr := rdOf_mk W i hlt
    rw [List.drop_eq_getElem_cons hlt]
    generalize W[i] = w at hr hwl
    simp only [tok]
    by_cases hb : isBar w = true
    · rw [if_pos hb]
      obtain ⟨r, hr1, hr2⟩ := ih (i + 1) out (s ++ [0]) (by omega) (by rw [List.length_append]; omega) (by rw [List.length_append, List.length_singleton]; omega) (by omega)
      refine ⟨r, ?_, hr2⟩
      have hj : Ev (fun k => spec_l25Tokens.j1 k out s (W.map mkB) (i : Int) true) r := by
        apply Ev_succ
        simp only [spec_l25Tokens.j1, if_true, if_pos (show s.length < 17592186044416 by omega), e6]
        exact hr1
      apply Ev_succ
      simp only [spec_l25Tokens.l0, if_pos ei, if_pos e0, hr, mk_toList]
      by_cases e : w = [124]
      · simp only [if_pos e]
        exact hj
      · have e2 : w = [124, 124] := by
          unfold isBar at hb
          rw [Bool.or_eq_true, beq_iff_eq, beq_iff_eq] at hb
          exact hb.resolve_left e
        simp only [if_neg e, show (w == [124, 124]) = true from beq_iff_eq.2 e2]
        exact hj
    · rw [if_neg hb]
      have hb1 : ¬ w = [124] := fun e => hb (by unfold isBar; rw [e]; rfl)
      have hb2 : (w == [124, 124]) = false := beq_eq_false_iff_ne.2 (fun e => hb (by unfold isBar; rw [e]; rfl))
      have hbl := body_len w
      have ho := l09ReadOne_eq (bodyB w) (by omega)
      have hj3 : ∃ r, Ev (fun k => spec_l25Tokens.j3 k out s (W.map mkB) (i : Int) (tieB w) ⟨(bodyB w).toArray⟩) r ∧ (match (if (oneR (bodyB w)).2.2 = false ∨ (tieB w = true ∧ lastP out ≠ some (oneR (bodyB w)).1) then none else tok (W.drop (i + 1)) (some (oneR (bodyB w)).1) (addLast s (oneR (bodyB w)).2.1)) with | some s' => r.2 = (s', true) | none => r.2 = ([], false)) := by
        generalize oneR (bodyB w) = o at ho ⊢
        obtain ⟨p, n, ok⟩ := o
        simp only
        have hlen : wrap64 ((out.length : Int) - 1) = (out.length : Int) - 1 := wr (by omega) (by omega)
        have hslen : wrap64 ((s.length : Int) - 1) = (s.length : Int) - 1 := wr (by omega) (by omega)
        have hfail : ∀ (q m : Int), Ev (fun k => spec_l25Tokens.j4 k out s (W.map mkB) (i : Int) (tieB w) ((out.length : Int) - 1) true q m) ([], [], false) := by
          intro q m
          apply Ev_succ
          simp only [spec_l25Tokens.j4, if_true]
          exact Ev.now _
        by_cases hbad : ok = false ∨ (tieB w = true ∧ lastP out ≠ some p)
        · rw [if_pos hbad]
          refine ⟨([], [], false), ?_, rfl⟩
          apply Ev_succ
          simp only [spec_l25Tokens.j3, hlen]
          refine Ev.bind ho ?_
          cases ok with
          | false => simp only [Bool.false_eq_true, if_false]; exact hfail p n
          | true =>
            have ht := hbad.resolve_left (by decide)
            simp only [if_true, ht.1]
            by_cases hz : (out.length : Int) - 1 < 0
            · simp only [if_pos hz]
              have := hfail p n
              rw [ht.1] at this
              exact this
            · have hne : out ≠ [] := by
                rintro rfl
                simp at hz
              have hrl : rd_T72 out ((out.length : Int) - 1) = out.getLast hne := by
                have hl2 : out.length - 1 < out.length := by omega
                rw [show (out.length : Int) - 1 = ((out.length - 1 : Nat) : Int) by omega, rdN_mem out _ hl2, List.getLast_eq_getElem]
              have hneq : (out.getLast hne).f0 ≠ p := by
                intro e
                apply ht.2
                unfold lastP
                rw [List.getLast?_eq_some_getLast hne]
                simp [e]
              simp only [if_neg hz, if_pos (show (0 : Int) ≤ (out.length : Int) - 1 by omega), if_pos (show (out.length : Int) - 1 < (out.length : Int) by omega), hrl, bne_iff_ne.2 hneq]
              have := hfail p n
              rw [ht.1] at this
              exact this
        · rw [if_neg hbad]
          have hok : ok = true := by
            cases ok with
            | false => exact absurd (.inl rfl) hbad
            | true => rfl
          subst hok
          have hset : s.set ((s.length : Int) - 1).toNat (wrap64 (rd s ((s.length : Int) - 1) + n)) = addLast s n := by
            unfold addLast
            rw [show ((s.length : Int) - 1).toNat = s.length - 1 by omega]
          cases htie : tieB w with
          | true =>
            have hlp : lastP out = some p := by
              by_cases e : lastP out = some p
              · exact e
              · exact absurd (.inr ⟨htie, e⟩) hbad
            have hne : out ≠ [] := by
              rintro rfl
              simp [lastP] at hlp
            have hpos : 1 ≤ out.length := List.length_pos_iff.2 hne
            have hrl : rd_T72 out ((out.length : Int) - 1) = out.getLast hne := by
              have hl2 : out.length - 1 < out.length := by omega
              rw [show (out.length : Int) - 1 = ((out.length - 1 : Nat) : Int) by omega, rdN_mem out _ hl2, List.getLast_eq_getElem]
            have hpe : (out.getLast hne).f0 = p := by
              unfold lastP at hlp
              rw [List.getLast?_eq_some_getLast hne] at hlp
              simpa using hlp
            have hlp2 : lastP (out.set ((out.length : Int) - 1).toNat ⟨(out.getLast hne).f0, wrap64 ((out.getLast hne).f1 + n)⟩) = some p := by
              unfold lastP
              rw [show ((out.length : Int) - 1).toNat = out.length - 1 by omega, List.getLast?_eq_getElem?, List.length_set, List.getElem?_set_self (by omega)]
              simp [hpe]
            obtain ⟨r, hr1, hr2⟩ := ih (i + 1) (out.set ((out.length : Int) - 1).toNat ⟨(out.getLast hne).f0, wrap64 ((out.getLast hne).f1 + n)⟩) (addLast s n) (by omega) (by rw [addLast_length]; exact h1) (by rw [addLast_length]; omega) (by rw [List.length_set]; omega)
            rw [hlp2] at hr2
            refine ⟨r, ?_, hr2⟩
            apply Ev_succ
            simp only [spec_l25Tokens.j3, hlen]
            refine Ev.bind ho ?_
            simp only [if_true, if_neg (show ¬ ((out.length : Int) - 1 < 0) by omega), if_pos (show (0 : Int) ≤ (out.length : Int) - 1 by omega), if_pos (show (out.length : Int) - 1 < (out.length : Int) by omega), hrl, hpe, bne_self_eq_false]
            apply Ev_succ
            simp only [spec_l25Tokens.j4, Bool.false_eq_true, if_false, hslen, if_pos (show (0 : Int) ≤ (s.length : Int) - 1 by omega), if_pos (show (s.length : Int) - 1 < (s.length : Int) by omega), Option.bind_some, if_true, if_pos (show (0 : Int) ≤ (out.length : Int) - 1 by omega), if_pos (show (out.length : Int) - 1 < (out.length : Int) by omega), hset, hrl, e6]
            exact hr1
          | false =>
            have hlp2 : lastP (out ++ [(⟨p, n⟩ : S72)]) = some p := by
              unfold lastP
              simp
            obtain ⟨r, hr1, hr2⟩ := ih (i + 1) (out ++ [(⟨p, n⟩ : S72)]) (addLast s n) (by omega) (by rw [addLast_length]; exact h1) (by rw [addLast_length]; omega) (by rw [List.length_append, List.length_singleton]; omega)
            rw [hlp2] at hr2
            refine ⟨r, ?_, hr2⟩
            apply Ev_succ
            simp only [spec_l25Tokens.j3, hlen]
            refine Ev.bind ho ?_
            simp only [if_true, Bool.false_eq_true, if_false]
            apply Ev_succ
            simp only [spec_l25Tokens.j4, Bool.false_eq_true, if_false, hslen, if_pos (show (0 : Int) ≤ (s.length : Int) - 1 by omega), if_pos (show (s.length : Int) - 1 < (s.length : Int) by omega), Option.bind_some, if_pos (show out.length < 8796093022208 by omega), hset, e6]
            exact hr1
      obtain ⟨r, hr3, hr4⟩ := hj3
      refine ⟨r, ?_, hr4⟩
      have hj2 : Ev (fun k => spec_l25Tokens.j2 k out s (W.map mkB) (i : Int) (tieB w)) r := by
        apply Ev_succ
        cases htie : tieB w with
        | true =>
          have hpos : (1 : Int) ≤ (w.length : Int) := by
            unfold tieB at htie
            cases w with
            | nil => simp at htie
            | cons a t => simp only [List.length_cons]; omega
          have hbt : bodyB w = w.tail := by unfold bodyB; rw [if_pos htie]
          have hex : (⟨w.toArray⟩ : ByteArray).extract 1 w.length = ⟨(w.tail).toArray⟩ := by
            rw [extract_mk, List.drop_one, List.take_of_length_le (by simp)]
          rw [htie, hbt] at hr3
          simp only [spec_l25Tokens.j2, if_pos e0, if_pos ei, if_true, hr, size_mk, if_pos hpos, hex]
          exact hr3
        | false =>
          have hbt : bodyB w = w := by unfold bodyB; rw [if_neg (by rw [htie]; decide)]
          rw [htie, hbt] at hr3
          simp only [spec_l25Tokens.j2, if_pos e0, if_pos ei, Bool.false_eq_true, if_false, hr]
          exact hr3
      apply Ev_succ
      simp only [spec_l25Tokens.l0, if_pos ei, if_pos e0, hr, mk_toList, if_neg hb1, hb2]
      apply Ev_succ
      simp only [spec_l25Tokens.j1, Bool.false_eq_true, if_false, if_pos e0, if_pos ei, hr, mk_toList, size_mk]
      cases w with
      | nil =>
        simp only [if_true]
        exact hj2
      | cons a t =>
        have hba : bt ⟨(a :: t).toArray⟩ 0 = (a.toNat : Int) := bt_mk (a :: t) 0 (by simp)
        simp only [if_neg (show ¬ (a :: t = []) by simp), if_pos (show (0 : Int) < (((a :: t).length : Nat) : Int) by simp only [List.length_cons]; omega), hba]
        have ht : tieB (a :: t) = ((a.toNat : Int) == 126) := by
          unfold tieB
          rw [List.head?_cons]
          by_cases e : a = 126
          · rw [e]; rfl
          · have e2 : ¬ ((a.toNat : Int) = 126) := fun h => e (by rw [← UInt8.toNat_inj]; have : (126 : UInt8).toNat = 126 := rfl; omega)
            rw [beq_eq_false_iff_ne.2 e2, beq_eq_false_iff_ne.2 (by simpa using e)]
        rw [ht] at hj2
        exact hj2
end Go.Proofs.YtjnfkomadgfggaaGreatDoor.Pu
end
section
namespace Go.Proofs.YtjnfkomadgfggaaGreatDoor.Pu
set_option linter.unusedSimpArgs false
set_option linter.unusedVariables false
open Go.RowKit Go.Proofs.YtjnfkomadgfggaaGreatDoorW.PrintWords Go.Proofs.YtjnfkomadgfggaaGreatDoor.PR
def sumW : List S74 → List Int → List Int
  | [], s => s
  | x :: r, s => sumW r (if x.f0 = true then s ++ [0] else addLast s x.f2.f1)
theorem sumW_append (x y : List S74) : ∀ s, sumW (x ++ y) s = sumW y (sumW x s) := by
  induction x with
  | nil => intro s; rfl
  | cons a r ih => intro s; exact ih _
theorem tie_prefix (w : List UInt8) : Lib.hasPrefix w [126] = tieB w ∧ Lib.trimPrefix w [126] = bodyB w := by
  have h : Lib.hasPrefix w [126] = tieB w := by
    unfold Lib.hasPrefix tieB
    cases w with
    | nil => rfl
    | cons a t =>
      show ((126 : UInt8) == a && ([] : List UInt8).isPrefixOf t) = (some a == some 126)
      by_cases e : a = 126
      · subst e
        cases t <;> rfl
      · rw [beq_eq_false_iff_ne.2 (fun h => e h.symm), Bool.false_and]
        exact (beq_eq_false_iff_ne.2 (by simpa using e)).symm
  refine ⟨h, ?_⟩
  unfold Lib.trimPrefix bodyB
  rw [h]
  cases tieB w with
  | false => rfl
  | true => simp
theorem tok_length (W : List (List UInt8)) : ∀ lp s s', tok W lp s = some s' → s'.length ≤ s.length + W.length := by
  induction W with
  | nil =>
    intro lp s s' h
    simp only [tok, Option.some.injEq] at h
    subst h
    simp
  | cons w r ih =>
    intro lp s s' h
    simp only [tok] at h
    split at h
    · have := ih _ _ _ h
      simp only [List.length_append, List.length_cons, List.length_nil] at this ⊢
      omega
    · split at h
      · cases h
      · have := ih _ _ _ h
        rw [addLast_length] at this
        simp only [List.length_cons]
        omega
def WordsT (o : Option (List Int)) (r : List S74 × Bool) (n : Nat) : Prop :=
  match o with
  | some s' => r.2 = true ∧ sumW r.1 [0] = s' ∧ r.1.length = n
  | none => r.2 = false
theorem WordsT.cast {o : Option (List Int)} {r : List S74 × Bool} {a b : Nat} (h : WordsT o r a) (e : a = b) : WordsT o r b := e ▸ h
theorem barWords_l0 (W : List (List UInt8)) (hW : W.length ≤ 100000) (hw : ∀ w ∈ W, (32 : UInt8) ∉ w ∧ w.length ≤ 1000000) (d : Nat) : ∀ (i : Nat) (acc : List S74) (fb fg : Bool) (pt ln : Int), i + d = W.length → acc.length + d ≤ 1000000 →
    ∃ r, Ev (fun k => impl_barWords.l0 k acc (W.map mkB) (W.length : Int) (i : Int) fb fg pt ln) r ∧ WordsT (tok (W.drop i) (if fb = true then none else some pt) (sumW acc [0])) r (acc.length + d) := by
  induction d with
  | zero =>
    intro i acc fb fg pt ln hi ha
    refine ⟨(acc, true), ?_, ?_⟩
    · apply Ev_succ
      simp only [impl_barWords.l0, if_neg (show ¬ ((i : Int) < (W.length : Int)) by omega)]
      exact Ev.now _
    · rw [List.drop_of_length_le (by omega)]
      exact ⟨rfl, rfl, rfl⟩
  | succ d ih =>
    intro i acc fb fg pt ln hi ha
    have hlt : i < W.length := by omega
    have hwl := hw W[i] (List.getElem_mem hlt)
    have ei : (i : Int) < ((W.map mkB).length : Int) := by rw [List.length_map]; omega
    have e0 : (0 : Int) ≤ (i : Int) := by omega
    have e1 : (i : Int) < (W.length : Int) := by omega
    have e6 : wrap64 ((i : Int) + 1) = ((i + 1 : Nat) : Int) := by rw [wr (by omega) (by omega)]; omega
    have hr := rdOf_mk W i hlt
    rw [List.drop_eq_getElem_cons hlt]
    generalize W[i] = w at hr hwl
    simp only [tok]
    by_cases hb : isBar w = true
    · rw [if_pos hb]
      obtain ⟨r, hr1, hr2⟩ := ih (i + 1) (acc ++ [(⟨true, false, (⟨0, 0⟩ : S72)⟩ : S74)]) fb fg pt ln (by omega) (by rw [List.length_append, List.length_singleton]; omega)
      rw [sumW_append] at hr2
      simp only [sumW, if_true] at hr2
      have hj : Ev (fun k => impl_barWords.j1 k acc ⟨w.toArray⟩ (W.map mkB) (W.length : Int) (i : Int) true fb fg pt ln) r := by
        apply Ev_succ
        simp only [impl_barWords.j1, if_true, if_pos (show acc.length < 5864062014805 by omega), e6]
        exact hr1
      refine ⟨r, ?_, ?_⟩
      · apply Ev_succ
        simp only [impl_barWords.l0, if_pos e1, if_pos e0, if_pos ei, hr, mk_toList]
        by_cases e : w = [124]
        · simp only [if_pos e]
          exact hj
        · have e2 : w = [124, 124] := by
            unfold isBar at hb
            rw [Bool.or_eq_true, beq_iff_eq, beq_iff_eq] at hb
            exact hb.resolve_left e
          simp only [if_neg e, show (w == [124, 124]) = true from beq_iff_eq.2 e2]
          exact hj
      · exact hr2.cast (by simp only [List.length_append, List.length_singleton]; omega)
    · rw [if_neg hb]
      have hb1 : ¬ w = [124] := fun e => hb (by unfold isBar; rw [e]; rfl)
      have hb2 : (w == [124, 124]) = false := beq_eq_false_iff_ne.2 (fun e => hb (by unfold isBar; rw [e]; rfl))
      obtain ⟨R, hR, hR1, hR2⟩ := readMel (bodyB w) (by have := body_len w; omega) (body_no w hwl.1)
      have hcp : strings_CutPrefix.f ⟨w.toArray⟩ ⟨#[126]⟩ = some (⟨(bodyB w).toArray⟩, tieB w) := by
        unfold strings_CutPrefix.f
        rw [← (tie_prefix w).1, ← (tie_prefix w).2]
      have hgo : ∀ g : Nat → Option (List S74 × Bool), ∀ r, Ev g r → (g = fun k => (impl_ReadMelody.f k ⟨(bodyB w).toArray⟩).bind fun bt203 => if bt203.2 = true then impl_barWords.j2 k acc (tieB w) bt203.1 (W.map mkB) (W.length : Int) (i : Int) ((bt203.1.length : Int) != 1) fb fg pt ln else impl_barWords.j2 k acc (tieB w) bt203.1 (W.map mkB) (W.length : Int) (i : Int) true fb fg pt ln) →
          Ev (fun k => impl_barWords.l0 k acc (W.map mkB) (W.length : Int) (i : Int) fb fg pt ln) r := by
        intro g r hg he
        subst he
        apply Ev_succ
        simp only [impl_barWords.l0, if_pos e1, if_pos e0, if_pos ei, hr, mk_toList, if_neg hb1, hb2]
        apply Ev_succ
        simp only [impl_barWords.j1, Bool.false_eq_true, if_false, hcp, Option.bind_some]
        exact hg
      have hfail : ∀ m, Ev (fun k => impl_barWords.j2 k acc (tieB w) m (W.map mkB) (W.length : Int) (i : Int) true fb fg pt ln) ([], false) := by
        intro m
        apply Ev_succ
        simp only [impl_barWords.j2, if_true]
        exact Ev.now _
      cases hok : (oneR (bodyB w)).2.2 with
      | false =>
        rw [if_pos (.inl rfl)]
        refine ⟨([], false), hgo _ _ ?_ rfl, rfl⟩
        refine Ev.bind hR ?_
        rcases hR2 hok with h | h
        · rw [h]
          simp only [Bool.false_eq_true, if_false]
          exact hfail _
        · have h1 : ((R.1.length : Int) != 1) = true := bne_iff_ne.2 (by omega)
          simp only [h1]
          cases R.2 with
          | false => simp only [Bool.false_eq_true, if_false]; exact hfail _
          | true => simp only [if_true]; exact hfail _
      | true =>
        rw [hR1 hok] at hR
        generalize (oneR (bodyB w)).1 = p at *
        generalize (oneR (bodyB w)).2.1 = n at *
        have e2 : rd_T72 [(⟨p, n⟩ : S72)] 0 = ⟨p, n⟩ := rfl
        have el : (([(⟨p, n⟩ : S72)]).length : Int) = 1 := rfl
        have hpush : ∃ r, Ev (fun k => impl_barWords.l0 k (acc ++ [(⟨false, tieB w, (⟨p, n⟩ : S72)⟩ : S74)]) (W.map mkB) (W.length : Int) ((i + 1 : Nat) : Int) false (tieB w) p n) r ∧ WordsT (tok (W.drop (i + 1)) (some p) (addLast (sumW acc [0]) n)) r (acc.length + (d + 1)) := by
          obtain ⟨r, hr1, hr2⟩ := ih (i + 1) (acc ++ [(⟨false, tieB w, (⟨p, n⟩ : S72)⟩ : S74)]) false (tieB w) p n (by omega) (by rw [List.length_append, List.length_singleton]; omega)
          rw [sumW_append] at hr2
          simp only [sumW, Bool.false_eq_true, if_false] at hr2
          exact ⟨r, hr1, hr2.cast (by simp only [List.length_append, List.length_singleton]; omega)⟩
        have hj2 : ∀ r, Ev (fun k => impl_barWords.j2 k acc (tieB w) [(⟨p, n⟩ : S72)] (W.map mkB) (W.length : Int) (i : Int) false fb fg pt ln) r → Ev (fun k => impl_barWords.l0 k acc (W.map mkB) (W.length : Int) (i : Int) fb fg pt ln) r := by
          intro r hr3
          refine hgo _ _ ?_ rfl
          refine Ev.bind hR ?_
          simp only [if_true, el, bne_self_eq_false]
          exact hr3
        by_cases hbad : tieB w = true ∧ (if fb = true then none else some pt) ≠ some p
        · rw [if_pos (.inr hbad)]
          refine ⟨([], false), hj2 _ ?_, rfl⟩
          apply Ev_succ
          simp only [impl_barWords.j2, Bool.false_eq_true, if_false, el, if_pos (show (0 : Int) < 1 by omega), hbad.1, if_true, e2]
          cases fb with
          | true => simp only [if_true]; exact Ev.now _
          | false =>
            have hne : ¬ pt = p := fun e => hbad.2 (by simp [e])
            simp only [Bool.false_eq_true, if_false, if_neg hne]
            exact Ev.now _
        · rw [if_neg (fun h => h.elim (fun h => by cases h) hbad)]
          obtain ⟨r, hr1, hr2⟩ := hpush
          refine ⟨r, hj2 _ ?_, hr2⟩
          apply Ev_succ
          simp only [impl_barWords.j2, Bool.false_eq_true, if_false, el, if_pos (show (0 : Int) < 1 by omega), e2, if_pos (show acc.length < 5864062014805 by omega), e6]
          cases htie : tieB w with
          | false =>
            rw [htie] at hr1
            simp only [Bool.false_eq_true, if_false]
            exact hr1
          | true =>
            rw [htie] at hr1
            have hl : (if fb = true then none else some pt) = some p := Classical.byContradiction fun e => hbad ⟨htie, e⟩
            cases fb with
            | true => simp at hl
            | false =>
              have hpe : pt = p := by simpa using hl
              simp only [Bool.false_eq_true, if_false, if_true, if_pos hpe]
              exact hr1
theorem barSums_l0 (ws : List S74) (hl : ws.length ≤ 1000000) (d : Nat) : ∀ (i : Nat) (s : List Int), i + d = ws.length → 1 ≤ s.length → s.length + d ≤ 10000000 → Ev (fun k => impl_barSums.l0 k s ws (ws.length : Int) (i : Int)) (sumW (ws.drop i) s) := by
  induction d with
  | zero =>
    intro i s hi h1 h2
    rw [List.drop_of_length_le (by omega)]
    apply Ev_succ
    simp only [impl_barSums.l0, if_neg (show ¬ ((i : Int) < (ws.length : Int)) by omega), sumW]
    exact Ev.now _
  | succ d ih =>
    intro i s hi h1 h2
    have hlt : i < ws.length := by omega
    have hrd : rd_T74 ws (i : Int) = ws[i] := by simp [rd_T74, List.getD_eq_getElem?_getD, List.getElem?_eq_getElem hlt]
    rw [List.drop_eq_getElem_cons hlt]
    apply Ev_succ
    simp only [impl_barSums.l0, if_pos (show (i : Int) < (ws.length : Int) by omega), if_pos (show (0 : Int) ≤ (i : Int) by omega), hrd, sumW, wr (show -9223372036854775808 ≤ (i : Int) + 1 by omega) (by omega), wr (show -9223372036854775808 ≤ (s.length : Int) - 1 by omega) (by omega)]
    by_cases hb : ws[i].f0 = true
    · have h3 := ih (i + 1) (s ++ [0]) (by omega) (by rw [List.length_append]; omega) (by rw [List.length_append, List.length_singleton]; omega)
      rw [show ((i + 1 : Nat) : Int) = (i : Int) + 1 by omega] at h3
      simp only [if_pos hb, if_pos (show s.length < 17592186044416 by omega)]
      exact h3
    · have h3 := ih (i + 1) (addLast s ws[i].f2.f1) (by omega) (by rw [addLast_length]; exact h1) (by rw [addLast_length]; omega)
      rw [show ((i + 1 : Nat) : Int) = (i : Int) + 1 by omega] at h3
      unfold addLast at h3
      simp only [if_neg hb, if_pos (show (0 : Int) ≤ (s.length : Int) - 1 by omega), if_pos (show (s.length : Int) - 1 < (s.length : Int) by omega), show ((s.length : Int) - 1).toNat = s.length - 1 by omega]
      unfold addLast
      exact h3
theorem count_split (b : UInt8) (n : Nat) : ∀ l : List UInt8, l.length ≤ n → (splitB b l).length = Lib.count l [b] + 1 := by
  induction n with
  | zero =>
    intro l hl
    have : l = [] := List.eq_nil_of_length_eq_zero (by omega)
    subst this
    rw [splitB_self b [] (by simp), Lib.count_miss (index_no b [] (by simp))]
    rfl
  | succ n ih =>
    intro l hl
    by_cases hm : b ∈ l
    · obtain ⟨x, y, rfl, hx⟩ := List.eq_append_cons_of_mem hm
      have hy : y.length ≤ n := by
        rw [List.length_append, List.length_cons] at hl
        omega
      have hd : (x ++ b :: y).drop (x.length + [b].length) = y := by simp
      rw [splitB_first b x y hx, List.length_cons, ih y hy, Lib.count_hit (by simp) (index_byte b x y hx), hd]
      omega
    · rw [splitB_self b l hm, Lib.count_miss (index_no b l hm)]
      rfl
theorem splitBB (l : List UInt8) (hl : l.length ≤ 2000) : strings_Split.f ⟨l.toArray⟩ ⟨#[32]⟩ = some ((splitB 32 l).map mkB) := by
  unfold strings_Split.f
  rw [if_pos ⟨by rw [size_mk]; omega, by decide⟩]
  have h1 := Lib.splitB_data ⟨#[32]⟩ 0 (Lib.countB ⟨l.toArray⟩ ⟨#[32]⟩) ⟨l.toArray⟩
  have h2 := Lib.splitB_all ⟨#[32]⟩ (by decide) 0 _ ⟨l.toArray⟩ rfl
  have h3 := splitK_all 32 (Lib.countB ⟨l.toArray⟩ ⟨#[32]⟩) l
  have h4 : (Lib.splitK [32] 0 (Lib.countB ⟨l.toArray⟩ ⟨#[32]⟩) l).length = Lib.countB ⟨l.toArray⟩ ⟨#[32]⟩ + 1 := by
    have := congrArg List.length h1
    rw [List.length_map, h2] at this
    simpa using this.symm
  have h5 : (splitB 32 l).length ≤ Lib.countB ⟨l.toArray⟩ ⟨#[32]⟩ + 1 := by
    have h8 : Lib.countB ⟨l.toArray⟩ ⟨#[32]⟩ = Lib.count l [32] := by
      unfold Lib.countB
      simp
    rw [h8, ← count_split 32 l.length l (Nat.le_refl _)]
    exact Nat.le_refl _
  have h6 := h3.1 h5
  congr 1
  have h7 : (Lib.splitB ⟨#[32]⟩ 0 (Lib.countB ⟨l.toArray⟩ ⟨#[32]⟩) ⟨l.toArray⟩).map (·.data.toList) = splitB 32 l := by
    rw [h1, ← h6]
  rw [← h7, List.map_map]
  refine ((List.map_congr_left (fun x _ => ?_)).trans (List.map_id _)).symm
  show mkB x.data.toList = x
  unfold mkB
  cases x
  simp
def tokR (l : List UInt8) : Option (List Int) := if l = [45] then some [] else tok (splitB 32 l) none [0]
def SpecT (o : Option (List Int)) (r : List S72 × List Int × Bool) : Prop :=
  match o with
  | some s => r.2 = (s, true)
  | none => r.2 = ([], false)
def ImplT (o : Option (List Int)) (r : List S74 × Bool) : Prop :=
  match o with
  | some s => r.2 = true ∧ Ev (fun k => impl_barSums.f k r.1) s
  | none => r.2 = false
theorem tokR_length (l : List UInt8) (hl : l.length ≤ 2000) (s : List Int) (h : tokR l = some s) : s.length ≤ 3000 := by
  unfold tokR at h
  split at h
  · injection h with h
    subst h
    simp
  · have h1 := tok_length _ _ _ _ h
    have h2 := splitB_count 32 l
    simp only [List.length_cons, List.length_nil] at h1
    omega
theorem sTokens (l : List UInt8) (hl : l.length ≤ 2000) : ∃ r, Ev (fun k => spec_l25Tokens.f k ⟨l.toArray⟩) r ∧ SpecT (tokR l) r := by
  unfold tokR
  by_cases h2 : l = [45]
  · rw [if_pos h2]
    refine ⟨([], [], true), ?_, rfl⟩
    unfold spec_l25Tokens.f
    simp only [Option.bind_some, mk_toList, if_pos h2]
    exact Ev.now _
  · rw [if_neg h2]
    have hcount := splitB_count 32 l
    have hno := splitB_no 32 l
    obtain ⟨r, hr1, hr2⟩ := tokens_l0 (splitB 32 l) (by omega) (fun w hw => by have := (hno w hw).2; omega) (splitB 32 l).length 0 [] [0] (by omega) (by simp) (by simp; omega) (by simp; omega)
    rw [List.drop_zero, show lastP ([] : List S72) = none from rfl] at hr2
    refine ⟨r, ?_, hr2⟩
    unfold spec_l25Tokens.f
    simp only [Option.bind_some, mk_toList, if_neg h2]
    exact Ev.bind (l01Split_eq l (by omega) 32) hr1
theorem iWords (l : List UInt8) (hl : l.length ≤ 2000) : ∃ r, Ev (fun k => impl_barWords.f k ⟨l.toArray⟩) r ∧ ImplT (tokR l) r := by
  unfold tokR
  by_cases h2 : l = [45]
  · rw [if_pos h2]
    refine ⟨([], true), ?_, rfl, ?_⟩
    · unfold impl_barWords.f
      simp only [mk_toList, if_pos h2]
      exact Ev.now _
    · simp only [impl_barSums.f, List.length_nil, show ((0 : Nat) : Int) = 0 from rfl, if_true]
      exact Ev.now _
  · rw [if_neg h2]
    have hcount := splitB_count 32 l
    have hno := splitB_no 32 l
    have hne := splitB_ne 32 l
    obtain ⟨r, hr1, hr2⟩ := barWords_l0 (splitB 32 l) (by omega) (fun w hw => ⟨(hno w hw).1, by have := (hno w hw).2; omega⟩) (splitB 32 l).length 0 [] true false 0 0 (by omega) (by simp; omega)
    rw [List.drop_zero] at hr2
    simp only [if_true, sumW] at hr2
    refine ⟨r, ?_, ?_⟩
    · unfold impl_barWords.f
      simp only [mk_toList, if_neg h2, splitBB l (by omega), Option.bind_some, List.length_map]
      exact hr1
    · cases htok : tok (splitB 32 l) none [0] with
      | none =>
        rw [htok] at hr2
        exact hr2
      | some s =>
        rw [htok] at hr2
        obtain ⟨q1, q2, q3⟩ := hr2
        have hpos : 1 ≤ (splitB 32 l).length := List.length_pos_iff.2 hne
        refine ⟨q1, ?_⟩
        unfold impl_barSums.f
        simp only [if_neg (show ¬ ((r.1.length : Int) = 0) by simp only [List.length_nil] at q3; omega)]
        have := barSums_l0 r.1 (by simp only [List.length_nil] at q3; omega) r.1.length 0 [0] (by omega) (by simp) (by simp only [List.length_nil, List.length_singleton] at q3 ⊢; omega)
        rw [List.drop_zero, q2] at this
        exact this
end Go.Proofs.YtjnfkomadgfggaaGreatDoor.Pu
end
section
namespace Go.Proofs.YtjnfkomadgfggaaGreatDoor.Pu
set_option linter.unusedSimpArgs false
set_option linter.unusedVariables false
open Go.RowKit Go.Proofs.YtjnfkomadgfggaaGreatDoorW.PrintWords Go.Proofs.YtjnfkomadgfggaaGreatDoor.PR
def nmC (c : Int) : Bool := decide (97 ≤ c ∧ c ≤ 122) || decide (48 ≤ c ∧ c ≤ 57)
def isNm (s : ByteArray) : Bool := decide (1 ≤ s.size ∧ s.size ≤ 10) && (decide (97 ≤ bt s 0 ∧ bt s 0 ≤ 122) && allFrom nmC s 0 s.size)
theorem small_eq (c : Int) : spec_l01Small.f c = some (decide (97 ≤ c ∧ c ≤ 122)) := by
  unfold spec_l01Small.f
  by_cases h : c ≥ 97
  · rw [if_pos h]
    simp only [ge_iff_le] at h
    simp [h]
  · rw [if_neg h]
    simp only [ge_iff_le] at h
    simp [h]
theorem l01Name_l0 (s : ByteArray) (hs : s.size ≤ 9223372036854775806) (d : Nat) : ∀ i : Nat, i + d = s.size → Ev (fun k => spec_l01Name.l0 k s (i : Int)) (allFrom nmC s i d) := by
  induction d with
  | zero =>
    intro i hi
    apply Ev_succ
    simp only [spec_l01Name.l0, if_neg (show ¬ ((i : Int) < (s.size : Int)) by omega)]
    exact Ev.now _
  | succ d ih =>
    intro i hi
    apply Ev_succ
    simp only [spec_l01Name.l0, if_pos (show (i : Int) < (s.size : Int) by omega), if_pos (show 0 ≤ (i : Int) by omega), small_eq, digit_eq, Option.bind_some, wr (show -9223372036854775808 ≤ (i : Int) + 1 by omega) (by omega)]
    have h2 := ih (i + 1) (by omega)
    rw [show ((i + 1 : Nat) : Int) = (i : Int) + 1 by omega] at h2
    unfold allFrom nmC
    by_cases h1 : 97 ≤ bt s (i : Int) ∧ bt s (i : Int) ≤ 122
    · simp only [h1, decide_true, Bool.true_or, Bool.true_and, if_true]
      exact h2
    · by_cases h3 : 48 ≤ bt s (i : Int) ∧ bt s (i : Int) ≤ 57
      · simp only [h1, h3, decide_true, decide_false, Bool.or_true, Bool.true_and, if_true, Bool.false_eq_true, if_false]
        exact h2
      · simp only [h1, h3, decide_false, Bool.or_self, Bool.false_and, Bool.false_eq_true, if_false]
        exact Ev.now _
theorem l01Name_eq (s : ByteArray) (hs : s.size ≤ 9223372036854775806) : Ev (fun k => spec_l01Name.f k s) (isNm s) := by
  have hl := l01Name_l0 s hs s.size 0 (by omega)
  have hj : Ev (fun k => spec_l01Name.j0 k s true) false := by
    apply Ev_succ
    simp only [spec_l01Name.j0, if_true]
    exact Ev.now _
  unfold spec_l01Name.f isNm
  by_cases h0 : s.size = 0
  · simp only [if_pos ((toList_nil_iff s).2 h0)]
    simp only [h0]
    simpa using hj
  · simp only [if_neg (fun h => h0 ((toList_nil_iff s).1 h))]
    by_cases h1 : (s.size : Int) > 10
    · simp only [if_pos h1, show ¬ (1 ≤ s.size ∧ s.size ≤ 10) by omega, decide_false, Bool.false_and]
      exact hj
    · simp only [if_neg h1, if_pos (show 0 < (s.size : Int) by omega), small_eq, Option.bind_some, show (1 ≤ s.size ∧ s.size ≤ 10) by omega, decide_true, Bool.true_and]
      apply Ev_succ
      by_cases h2 : 97 ≤ bt s 0 ∧ bt s 0 ≤ 122
      · simp only [spec_l01Name.j0, h2, decide_true, Bool.not_true, Bool.false_eq_true, if_false, and_self, Bool.true_and]
        exact hl
      · simp only [spec_l01Name.j0, h2, decide_false, Bool.not_false, if_true, Bool.false_and]
        exact Ev.now _
theorem only_l0 (s : ByteArray) (hs : s.size ≤ 9223372036854775806) (d : Nat) : ∀ i : Nat, i + d = s.size → Ev (fun k => impl_onlyNameBytes.l0 k s (s.size : Int) (i : Int)) (allFrom nmC s i d) := by
  induction d with
  | zero =>
    intro i hi
    apply Ev_succ
    simp only [impl_onlyNameBytes.l0, if_neg (show ¬ ((i : Int) < (s.size : Int)) by omega)]
    exact Ev.now _
  | succ d ih =>
    intro i hi
    apply Ev_succ
    simp only [impl_onlyNameBytes.l0, if_pos (show (i : Int) < (s.size : Int) by omega), if_pos (show 0 ≤ (i : Int) by omega), wr (show -9223372036854775808 ≤ (i : Int) + 1 by omega) (by omega)]
    have h2 := ih (i + 1) (by omega)
    rw [show ((i + 1 : Nat) : Int) = (i : Int) + 1 by omega] at h2
    unfold allFrom nmC
    generalize bt s (i : Int) = c
    have e1 : ∀ p : Bool, p = true → Ev (fun k => impl_onlyNameBytes.l0 k s (s.size : Int) ((i : Int) + 1)) (p && allFrom nmC s (i + 1) d) := by
      intro p hp
      rw [hp, Bool.true_and]
      exact h2
    have e2 : ∀ p : Bool, p = false → Ev (fun _ => some false) (p && allFrom nmC s (i + 1) d) := by
      intro p hp
      rw [hp, Bool.false_and]
      exact Ev.now _
    refine Ev_ite (fun a => Ev_ite (fun b => e2 _ (by simp; omega)) (fun b => Ev_ite (fun c => e2 _ (by simp; omega)) (fun c => e1 _ (by simp; omega)))) (fun a => Ev_ite (fun b => Ev_ite (fun c => e2 _ (by simp; omega)) (fun c => Ev_ite (fun d => e2 _ (by simp; omega)) (fun d => e1 _ (by simp; omega)))) (fun b => e1 _ (by simp; omega)))
theorem IsName_eq (s : ByteArray) (hs : s.size ≤ 9223372036854775806) : Ev (fun k => impl_IsName.f k s) (isNm s) := by
  have hl := only_l0 s hs s.size 0 (by omega)
  unfold impl_IsName.f isNm
  by_cases h0 : s.size < 1
  · simp only [if_pos (show (s.size : Int) < 1 by omega), show ¬ (1 ≤ s.size ∧ s.size ≤ 10) by omega, decide_false, Bool.false_and]
    exact Ev.now _
  · simp only [if_neg (show ¬ (s.size : Int) < 1 by omega)]
    by_cases h1 : (s.size : Int) > 10
    · simp only [if_pos h1, show ¬ (1 ≤ s.size ∧ s.size ≤ 10) by omega, decide_false, Bool.false_and]
      exact Ev.now _
    · simp only [if_neg h1, if_pos (show 0 < (s.size : Int) by omega), show (1 ≤ s.size ∧ s.size ≤ 10) by omega, decide_true, Bool.true_and]
      by_cases h2 : bt s 0 < 97
      · simp only [if_pos h2, show ¬ (97 ≤ bt s 0 ∧ bt s 0 ≤ 122) by omega, decide_false, Bool.false_and]
        exact Ev.now _
      · simp only [if_neg h2]
        by_cases h3 : bt s 0 > 122
        · simp only [if_pos h3, show ¬ (97 ≤ bt s 0 ∧ bt s 0 ≤ 122) by omega, decide_false, Bool.false_and]
          exact Ev.now _
        · simp only [if_neg h3, show (97 ≤ bt s 0 ∧ bt s 0 ≤ 122) by omega, decide_true, Bool.true_and]
          refine Ev.bind (g := fun k => impl_onlyNameBytes.f k s) (f := fun _ t => some t) ?_ (Ev.now _)
          unfold impl_onlyNameBytes.f
          exact hl
end Go.Proofs.YtjnfkomadgfggaaGreatDoor.Pu
end
section
namespace Go.Proofs.YtjnfkomadgfggaaGreatDoor.Pu
set_option linter.unusedSimpArgs false
set_option linter.unusedVariables false
open Go.RowKit Go.Proofs.YtjnfkomadgfggaaGreatDoorW.PrintWords Go.Proofs.YtjnfkomadgfggaaGreatDoor.PR
def sumL : List Int → Int
  | [] => 0
  | a :: r => a + sumL r
theorem sumL_nonneg (l : List Int) (h : ∀ x ∈ l, 1 ≤ x) : 0 ≤ sumL l := by
  induction l with
  | nil => exact Int.le_refl _
  | cons a r ih =>
    have h1 := h a (by simp)
    have h2 := ih (fun x hx => h x (by simp [hx]))
    simp only [sumL]
    omega
theorem sumL_take_le (l : List Int) (h : ∀ x ∈ l, 1 ≤ x) (k : Nat) (hk : k < l.length) : 0 ≤ sumL (l.take k) ∧ sumL (l.take k) + rd l (k : Int) ≤ sumL l ∧ sumL (l.take (k + 1)) = sumL (l.take k) + rd l (k : Int) ∧ 1 ≤ rd l (k : Int) := by
  induction l generalizing k with
  | nil => simp at hk
  | cons a r ih =>
    have h1 := h a (by simp)
    have hr : ∀ x ∈ r, 1 ≤ x := fun x hx => h x (by simp [hx])
    have h2 := sumL_nonneg r hr
    cases k with
    | zero =>
      have e : rd (a :: r) ((0 : Nat) : Int) = a := rfl
      rw [e]
      simp only [List.take_zero, List.take_succ_cons, sumL]
      omega
    | succ k =>
      have e : rd (a :: r) ((k + 1 : Nat) : Int) = rd r (k : Int) := by
        rw [rd_mem (a :: r) (k + 1) hk, rd_mem r k (by simpa using hk)]
        rfl
      have h3 := ih hr k (by simpa using hk)
      rw [e]
      simp only [List.take_succ_cons, sumL]
      omega
def secAt : List Int → Int → Nat × Int
  | [], b => (0, b)
  | a :: r, b => if b < a then (0, b) else ((secAt r (b - a)).1 + 1, (secAt r (b - a)).2)
theorem secAt_of (l : List Int) (h : ∀ x ∈ l, 1 ≤ x) (k : Nat) (hk : k < l.length) (p : Int) (p0 : 0 ≤ p) (p1 : p < rd l (k : Int)) : secAt l (sumL (l.take k) + p) = (k, p) := by
  induction l generalizing k with
  | nil => simp at hk
  | cons a r ih =>
    have hr : ∀ x ∈ r, 1 ≤ x := fun x hx => h x (by simp [hx])
    cases k with
    | zero =>
      have e : rd (a :: r) ((0 : Nat) : Int) = a := rfl
      rw [e] at p1
      simp only [List.take_zero, sumL, Int.zero_add, secAt, if_pos p1]
    | succ k =>
      have e : rd (a :: r) ((k + 1 : Nat) : Int) = rd r (k : Int) := by
        rw [rd_mem (a :: r) (k + 1) hk, rd_mem r k (by simpa using hk)]
        rfl
      rw [e] at p1
      have h3 := ih hr k (by simpa using hk) p1
      have h4 := (sumL_take_le r hr k (by simpa using hk)).1
      simp only [List.take_succ_cons, sumL, secAt]
      rw [if_neg (by omega), show a + sumL (r.take k) + p - a = sumL (r.take k) + p by omega, h3]
def leftP (l : List Int) (sp t : Int) : Int := (rd l ((secAt l (t % (sumL l * sp) / sp)).1 : Int) - (secAt l (t % (sumL l * sp) / sp)).2) * sp - t % (sumL l * sp) % sp
structure AtT (l : List Int) (sp t : Int) (q k : Nat) (r : Int) : Prop where
  ht : t = (q : Int) * (sumL l * sp) + (sumL (l.take k) * sp + r)
  hk : k < l.length
  r0 : 0 ≤ r
  r1 : r < rd l (k : Int) * sp
theorem AtT.mod {l : List Int} {sp t : Int} {q k : Nat} {r : Int} (a : AtT l sp t q k r) (h : ∀ x ∈ l, 1 ≤ x) (hs : 1 ≤ sp) : t % (sumL l * sp) = sumL (l.take k) * sp + r ∧ 0 ≤ sumL (l.take k) * sp + r ∧ sumL (l.take k) * sp + r < sumL l * sp := by
  have h1 := sumL_take_le l h k a.hk
  have h2 : (sumL (l.take k) + rd l (k : Int)) * sp ≤ sumL l * sp := Int.mul_le_mul_of_nonneg_right h1.2.1 (by omega)
  rw [Int.add_mul] at h2
  have h3 : 0 ≤ sumL (l.take k) * sp := Int.mul_nonneg h1.1 (by omega)
  have h4 := a.r0
  have h5 := a.r1
  refine ⟨?_, by omega, by omega⟩
  rw [a.ht, Int.add_comm, Int.add_mul_emod_self_right, Int.emod_eq_of_lt (by omega) (by omega)]
theorem AtT.sec {l : List Int} {sp t : Int} {q k : Nat} {r : Int} (a : AtT l sp t q k r) (h : ∀ x ∈ l, 1 ≤ x) (hs : 1 ≤ sp) : secAt l (t % (sumL l * sp) / sp) = (k, r / sp) := by
  rw [(a.mod h hs).1, Int.add_comm, Int.add_mul_ediv_right _ _ (by omega), Int.add_comm]
  exact secAt_of l h k a.hk _ (Int.ediv_nonneg a.r0 (by omega)) (Int.ediv_lt_of_lt_mul (by omega) a.r1)
theorem AtT.left {l : List Int} {sp t : Int} {q k : Nat} {r : Int} (a : AtT l sp t q k r) (h : ∀ x ∈ l, 1 ≤ x) (hs : 1 ≤ sp) : leftP l sp t = rd l (k : Int) * sp - r := by
  unfold leftP
  rw [a.sec h hs, (a.mod h hs).1, Int.add_comm (sumL (l.take k) * sp) r, Int.add_mul_emod_self_right]
  have h1 := Int.emod_add_mul_ediv r sp
  simp only
  rw [Int.sub_mul, Int.mul_comm (r / sp) sp]
  omega
theorem AtT.within {l : List Int} {sp t : Int} {q k : Nat} {r : Int} (a : AtT l sp t q k r) (n : Int) (n0 : 0 ≤ n) (h1 : r + n < rd l (k : Int) * sp) : AtT l sp (t + n) q k (r + n) :=
  ⟨by have := a.ht; omega, a.hk, by have := a.r0; omega, h1⟩
theorem AtT.next {l : List Int} {sp t : Int} {q k : Nat} {r : Int} (a : AtT l sp t q k r) (h : ∀ x ∈ l, 1 ≤ x) (hs : 1 ≤ sp) (n : Int) (h1 : r + n = rd l (k : Int) * sp) :
    AtT l sp (t + n) (if k + 1 < l.length then q else q + 1) (if k + 1 < l.length then k + 1 else 0) 0 := by
  have h2 := sumL_take_le l h k a.hk
  have hk := a.hk
  have ht := a.ht
  have e : (sumL (l.take k) + rd l (k : Int)) * sp = sumL (l.take k) * sp + rd l (k : Int) * sp := Int.add_mul _ _ _
  by_cases hl : k + 1 < l.length
  · rw [if_pos hl, if_pos hl]
    have h3 := (sumL_take_le l h (k + 1) hl).2.2.2
    refine ⟨?_, hl, Int.le_refl _, Int.mul_pos (by omega) (by omega)⟩
    rw [h2.2.2.1, e]
    omega
  · rw [if_neg hl, if_neg hl]
    have h3 := (sumL_take_le l h 0 (by omega)).2.2.2
    have h4 : l.take (k + 1) = l := List.take_of_length_le (by omega)
    rw [h4] at h2
    refine ⟨?_, by omega, Int.le_refl _, Int.mul_pos h3 (by omega)⟩
    rw [← h2.2.2.1] at e
    have e2 : ((q + 1 : Nat) : Int) * (sumL l * sp) = (q : Int) * (sumL l * sp) + sumL l * sp := by
      rw [Int.natCast_add, Int.add_mul]
      simp
    rw [e2]
    simp only [List.take_zero, sumL]
    omega
theorem AtT.zero {l : List Int} {sp : Int} (h : ∀ x ∈ l, 1 ≤ x) (hl : 0 < l.length) (hs : 1 ≤ sp) : AtT l sp 0 0 0 0 := by
  have h3 := (sumL_take_le l h 0 hl).2.2.2
  refine ⟨by simp [sumL], hl, Int.le_refl _, Int.mul_pos h3 (by omega)⟩
theorem AtT.sam {l : List Int} {sp t : Int} {q k : Nat} {r : Int} (a : AtT l sp t q k r) (h : ∀ x ∈ l, 1 ≤ x) (hs : 1 ≤ sp) (hr : r = 0) : (t % (sumL l * sp) = 0 ↔ k = 0) := by
  rw [(a.mod h hs).1, hr, Int.add_zero]
  constructor
  · intro h1
    cases k with
    | zero => rfl
    | succ k =>
      have h2 := sumL_take_le l h k (by have := a.hk; omega)
      have h3 : 0 < sumL (l.take (k + 1)) * sp := Int.mul_pos (by omega) (by omega)
      omega
  · intro h1
    subst h1
    simp [sumL]
structure Pc where
  i : Int
  n : Int
  t : Int
  later : Bool
theorem AtT.step {l : List Int} {sp t : Int} (h : ∀ x ∈ l, 1 ≤ x) (hs : 1 ≤ sp) (a : ∃ q k r, AtT l sp t q k r) (rest : Int) (hr : 1 ≤ rest) :
    1 ≤ min rest (leftP l sp t) ∧ min rest (leftP l sp t) ≤ rest ∧ ∃ q k r, AtT l sp (t + min rest (leftP l sp t)) q k r := by
  obtain ⟨q, k, r, a⟩ := a
  have e := a.left h hs
  have h1 := a.r1
  have h0 := a.r0
  refine ⟨by omega, by omega, ?_⟩
  by_cases c : r + min rest (leftP l sp t) < rd l (k : Int) * sp
  · exact ⟨_, _, _, a.within _ (by omega) c⟩
  · exact ⟨_, _, _, a.next h hs _ (by omega)⟩
end Go.Proofs.YtjnfkomadgfggaaGreatDoor.Pu
end
section
namespace Go.Proofs.YtjnfkomadgfggaaGreatDoor.Pu
set_option linter.unusedSimpArgs false
set_option linter.unusedVariables false
open Go.RowKit Go.Proofs.YtjnfkomadgfggaaGreatDoorW.PrintWords Go.Proofs.YtjnfkomadgfggaaGreatDoor.PR
theorem sumL_le (l : List Int) (h : ∀ x ∈ l, 1 ≤ x ∧ x ≤ 16) : sumL l ≤ 16 * l.length := by
  induction l with
  | nil => simp [sumL]
  | cons a r ih =>
    have h1 := h a (by simp)
    have h2 := ih (fun x hx => h x (by simp [hx]))
    simp only [sumL, List.length_cons]
    omega
theorem sumL_take_bd (l : List Int) (h : ∀ x ∈ l, 1 ≤ x ∧ x ≤ 16) (hl : l.length ≤ 8) (i : Nat) : 0 ≤ sumL (l.take i) ∧ sumL (l.take i) ≤ 128 := by
  have h1 := sumL_le (l.take i) (fun x hx => h x (List.mem_of_mem_take hx))
  have h2 := sumL_nonneg (l.take i) (fun x hx => (h x (List.mem_of_mem_take hx)).1)
  rw [List.length_take] at h1
  omega
theorem l17Sum_l0 (l : List Int) (h : ∀ x ∈ l, 1 ≤ x ∧ x ≤ 16) (hl : l.length ≤ 8) (d : Nat) : ∀ i : Nat, i + d = l.length → Ev (fun k => spec_l17Sum.l0 k l (sumL (l.take i)) (i : Int)) (sumL l) := by
  induction d with
  | zero =>
    intro i hi
    apply Ev_succ
    simp only [spec_l17Sum.l0, if_neg (show ¬ ((i : Int) < (l.length : Int)) by omega), List.take_of_length_le (show l.length ≤ i by omega)]
    exact Ev.now _
  | succ d ih =>
    intro i hi
    have hb := sumL_take_bd l h hl i
    have hs := sumL_take_le l (fun x hx => (h x hx).1) i (by omega)
    have hb2 := sumL_take_bd l h hl (i + 1)
    have h2 := ih (i + 1) (by omega)
    rw [show ((i + 1 : Nat) : Int) = (i : Int) + 1 by omega, hs.2.2.1] at h2
    rw [hs.2.2.1] at hb2
    apply Ev_succ
    simp only [spec_l17Sum.l0, if_pos (show (i : Int) < (l.length : Int) by omega), if_pos (show 0 ≤ (i : Int) by omega), wr (show -9223372036854775808 ≤ (i : Int) + 1 by omega) (by omega), wr (show -9223372036854775808 ≤ sumL (l.take i) + rd l (i : Int) by omega) (by omega)]
    exact h2
theorem l17Sum_eq (l : List Int) (h : ∀ x ∈ l, 1 ≤ x ∧ x ≤ 16) (hl : l.length ≤ 8) : Ev (fun k => spec_l17Sum.f k l) (sumL l) := l17Sum_l0 l h hl l.length 0 (by omega)
theorem sumOf_l0 (l : List Int) (h : ∀ x ∈ l, 1 ≤ x ∧ x ≤ 16) (hl : l.length ≤ 8) (d : Nat) : ∀ i : Nat, i + d = l.length → Ev (fun k => impl_sumOf.l0 k (sumL (l.take i)) l (l.length : Int) (i : Int)) (sumL l) := by
  induction d with
  | zero =>
    intro i hi
    apply Ev_succ
    simp only [impl_sumOf.l0, if_neg (show ¬ ((i : Int) < (l.length : Int)) by omega), List.take_of_length_le (show l.length ≤ i by omega)]
    exact Ev.now _
  | succ d ih =>
    intro i hi
    have hb := sumL_take_bd l h hl i
    have hs := sumL_take_le l (fun x hx => (h x hx).1) i (by omega)
    have hb2 := sumL_take_bd l h hl (i + 1)
    have h2 := ih (i + 1) (by omega)
    rw [show ((i + 1 : Nat) : Int) = (i : Int) + 1 by omega, hs.2.2.1] at h2
    rw [hs.2.2.1] at hb2
    apply Ev_succ
    simp only [impl_sumOf.l0, if_pos (show (i : Int) < (l.length : Int) by omega), if_pos (show 0 ≤ (i : Int) by omega), wr (show -9223372036854775808 ≤ (i : Int) + 1 by omega) (by omega), wr (show -9223372036854775808 ≤ sumL (l.take i) + rd l (i : Int) by omega) (by omega)]
    exact h2
theorem sumOf_eq (l : List Int) (h : ∀ x ∈ l, 1 ≤ x ∧ x ≤ 16) (hl : l.length ≤ 8) : Ev (fun k => impl_sumOf.f k l) (sumL l) := sumOf_l0 l h hl l.length 0 (by omega)
theorem all_of_rd (l : List Int) (P : Int → Prop) (h : ∀ j : Nat, j < l.length → P (rd l (j : Int))) : ∀ x ∈ l, P x := by
  intro x hx
  obtain ⟨j, hj, rfl⟩ := List.mem_iff_getElem.1 hx
  have := h j hj
  rwa [rd_mem l j hj] at this
theorem rd_of_all (l : List Int) (P : Int → Prop) (h : ∀ x ∈ l, P x) : ∀ j : Nat, j < l.length → P (rd l (j : Int)) := by
  intro j hj
  rw [rd_mem l j hj]
  exact h _ (List.getElem_mem hj)
structure OkTala (nm : ByteArray) (l m : List Int) : Prop where
  name : isNm nm = true
  l1 : 1 ≤ l.length
  l8 : l.length ≤ 8
  lm : m.length = l.length
  secs : ∀ j : Nat, j < l.length → 1 ≤ rd l (j : Int) ∧ rd l (j : Int) ≤ 16
  sam : rd m 0 = 1
  marks : ∀ j : Nat, 0 < j → j < l.length → 2 ≤ rd m (j : Int) ∧ rd m (j : Int) ≤ 3
  sum : sumL l ≤ 32
theorem l17Ok_l0 (t : S33) (n : Nat) (hn : t.f1.length = n) (hm : t.f2.length = n) (h8 : n ≤ 8) (d : Nat) : ∀ i : Nat, i + d = n → (∀ j : Nat, j < i → 1 ≤ rd t.f1 (j : Int) ∧ rd t.f1 (j : Int) ≤ 16) →
    ∃ b : Bool, Ev (fun k => spec_l17Ok.l0 k [t] (n : Int) (i : Int)) b ∧ (b = true ↔ (∀ j : Nat, i ≤ j → j < n → (1 ≤ rd t.f1 (j : Int) ∧ rd t.f1 (j : Int) ≤ 16) ∧ (j = 0 → rd t.f2 0 = 1) ∧ (0 < j → 2 ≤ rd t.f2 (j : Int) ∧ rd t.f2 (j : Int) ≤ 3)) ∧ sumL t.f1 ≤ 32) := by
  have e0 : rd_T33 [t] 0 = t := rfl
  have e1 : (0 : Int) < (([t] : List S33).length : Int) := by simp
  induction d with
  | zero =>
    intro i hi hp
    refine ⟨decide (sumL t.f1 ≤ 32), ?_, ?_⟩
    · apply Ev_succ
      simp only [spec_l17Ok.l0, if_neg (show ¬ ((i : Int) < (n : Int)) by omega), if_pos e1, e0]
      exact Ev.bind (l17Sum_eq t.f1 (all_of_rd t.f1 (fun x => 1 ≤ x ∧ x ≤ 16) (fun j hj => hp j (by omega))) (by omega)) (Ev.now _)
    · rw [decide_eq_true_eq]
      exact ⟨fun h => ⟨fun j h1 h2 => by omega, h⟩, fun h => h.2⟩
  | succ d ih =>
    intro i hi hp
    have e2 : (i : Int) < (n : Int) := by omega
    have e3 : (0 : Int) ≤ (i : Int) := by omega
    have e4 : (i : Int) < (t.f1.length : Int) := by omega
    have e5 : (i : Int) < (t.f2.length : Int) := by omega
    have e6 : wrap64 ((i : Int) + 1) = ((i + 1 : Nat) : Int) := by rw [wr (by omega) (by omega)]; omega
    have hno : ∀ c : Prop, ¬ ((1 ≤ rd t.f1 (i : Int) ∧ rd t.f1 (i : Int) ≤ 16) ∧ (i = 0 → rd t.f2 0 = 1) ∧ (0 < i → 2 ≤ rd t.f2 (i : Int) ∧ rd t.f2 (i : Int) ≤ 3)) → ((false = true) ↔ (∀ j : Nat, i ≤ j → j < n → (1 ≤ rd t.f1 (j : Int) ∧ rd t.f1 (j : Int) ≤ 16) ∧ (j = 0 → rd t.f2 0 = 1) ∧ (0 < j → 2 ≤ rd t.f2 (j : Int) ∧ rd t.f2 (j : Int) ≤ 3)) ∧ c) := by
      intro c hh
      exact ⟨fun h => absurd h (by decide), fun h => absurd (h.1 i (Nat.le_refl _) (by omega)) hh⟩
    have hyes : ∀ (b : Bool) (c : Prop), ((1 ≤ rd t.f1 (i : Int) ∧ rd t.f1 (i : Int) ≤ 16) ∧ (i = 0 → rd t.f2 0 = 1) ∧ (0 < i → 2 ≤ rd t.f2 (i : Int) ∧ rd t.f2 (i : Int) ≤ 3)) →
        (b = true ↔ (∀ j : Nat, i + 1 ≤ j → j < n → (1 ≤ rd t.f1 (j : Int) ∧ rd t.f1 (j : Int) ≤ 16) ∧ (j = 0 → rd t.f2 0 = 1) ∧ (0 < j → 2 ≤ rd t.f2 (j : Int) ∧ rd t.f2 (j : Int) ≤ 3)) ∧ c) →
        (b = true ↔ (∀ j : Nat, i ≤ j → j < n → (1 ≤ rd t.f1 (j : Int) ∧ rd t.f1 (j : Int) ≤ 16) ∧ (j = 0 → rd t.f2 0 = 1) ∧ (0 < j → 2 ≤ rd t.f2 (j : Int) ∧ rd t.f2 (j : Int) ≤ 3)) ∧ c) := by
      intro b c hh hb
      rw [hb]
      refine ⟨fun h => ⟨fun j h1 h2 => ?_, h.2⟩, fun h => ⟨fun j h1 h2 => h.1 j (by omega) h2, h.2⟩⟩
      by_cases e : j = i
      · subst e
        exact hh
      · exact h.1 j (by omega) h2
    by_cases h1 : 1 ≤ rd t.f1 (i : Int) ∧ rd t.f1 (i : Int) ≤ 16
    · obtain ⟨b, hb, hiff⟩ := ih (i + 1) (by omega) (fun j hj => by
        by_cases e : j = i
        · subst e
          exact h1
        · exact hp j (by omega))
      by_cases hz : i = 0
      · by_cases h2 : rd t.f2 (i : Int) = 1
        · refine ⟨b, ?_, hyes b _ ⟨h1, fun _ => by subst hz; exact h2, fun h => by omega⟩ hiff⟩
          apply Ev_succ
          simp only [spec_l17Ok.l0, if_pos e1, if_pos e2, if_pos e3, e0, if_pos e4, if_pos e5, l00In_eq, Option.bind_some, decide_eq_true h1, if_true, if_pos (show (i : Int) = 0 by omega), if_pos h2, if_neg (show ¬ (i : Int) > 0 by omega), e6]
          exact hb
        · refine ⟨false, ?_, hno _ (fun h => h2 (by subst hz; exact h.2.1 rfl))⟩
          apply Ev_succ
          simp only [spec_l17Ok.l0, if_pos e1, if_pos e2, if_pos e3, e0, if_pos e4, if_pos e5, l00In_eq, Option.bind_some, decide_eq_true h1, if_true, if_pos (show (i : Int) = 0 by omega), if_neg h2]
          exact Ev.now _
      · by_cases h2 : 2 ≤ rd t.f2 (i : Int) ∧ rd t.f2 (i : Int) ≤ 3
        · refine ⟨b, ?_, hyes b _ ⟨h1, fun h => absurd h hz, fun h => h2⟩ hiff⟩
          apply Ev_succ
          simp only [spec_l17Ok.l0, if_pos e1, if_pos e2, if_pos e3, e0, if_pos e4, if_pos e5, l00In_eq, Option.bind_some, decide_eq_true h1, decide_eq_true h2, if_true, if_neg (show ¬ (i : Int) = 0 by omega), if_pos (show (i : Int) > 0 by omega), e6]
          exact hb
        · refine ⟨false, ?_, hno _ (fun h => h2 (h.2.2 (by omega)))⟩
          apply Ev_succ
          simp only [spec_l17Ok.l0, if_pos e1, if_pos e2, if_pos e3, e0, if_pos e4, if_pos e5, l00In_eq, Option.bind_some, decide_eq_true h1, decide_eq_false h2, if_true, Bool.false_eq_true, if_false, if_neg (show ¬ (i : Int) = 0 by omega), if_pos (show (i : Int) > 0 by omega)]
          exact Ev.now _
    · refine ⟨false, ?_, hno _ (fun h => h1 h.1)⟩
      apply Ev_succ
      simp only [spec_l17Ok.l0, if_pos e1, if_pos e2, if_pos e3, e0, if_pos e4, l00In_eq, Option.bind_some, decide_eq_false h1, Bool.false_eq_true, if_false]
      exact Ev.now _
theorem l17Ok_eq (nm : ByteArray) (l m : List Int) (hs : nm.size ≤ 9223372036854775806) : ∃ b : Bool, Ev (fun k => spec_l17Ok.f k [(⟨nm, l, m⟩ : S33)]) b ∧ (b = true ↔ OkTala nm l m) := by
  have e0 : rd_T33 [(⟨nm, l, m⟩ : S33)] 0 = ⟨nm, l, m⟩ := rfl
  have e1 : (0 : Int) < (([(⟨nm, l, m⟩ : S33)]).length : Int) := by simp
  have hj : Ev (fun k => spec_l17Ok.j0 k [(⟨nm, l, m⟩ : S33)] (l.length : Int) true) false := by
    apply Ev_succ
    simp only [spec_l17Ok.j0, if_true]
    exact Ev.now _
  unfold spec_l17Ok.f
  simp only [if_pos e1, e0]
  cases hnm : isNm nm with
  | false =>
    refine ⟨false, Ev.bind (l01Name_eq nm hs) ?_, ⟨fun h => absurd h (by decide), fun h => absurd h.name (by rw [hnm]; decide)⟩⟩
    rw [hnm]
    simp only [Bool.false_eq_true, if_false]
    exact hj
  | true =>
    by_cases h18 : (1 : Int) ≤ (l.length : Int) ∧ (l.length : Int) ≤ 8
    · by_cases hm : m.length = l.length
      · obtain ⟨b, hb, hiff⟩ := l17Ok_l0 ⟨nm, l, m⟩ l.length rfl hm (by omega) l.length 0 (by omega) (fun j hj => by omega)
        refine ⟨b, Ev.bind (l01Name_eq nm hs) ?_, ?_⟩
        · rw [hnm]
          simp only [if_true, l00In_eq, Option.bind_some, decide_eq_true h18]
          apply Ev_succ
          simp only [spec_l17Ok.j0, show ((m.length : Int) != (l.length : Int)) = false by simp; omega, Bool.false_eq_true, if_false]
          exact hb
        · rw [hiff]
          constructor
          · rintro ⟨h1, h2⟩
            exact ⟨hnm, by omega, by omega, hm, fun j hj => (h1 j (by omega) hj).1, (h1 0 (by omega) (by omega)).2.1 rfl, fun j h0 hj => (h1 j (by omega) hj).2.2 h0, h2⟩
          · intro h
            exact ⟨fun j _ hj => ⟨h.secs j hj, fun _ => h.sam, fun h0 => h.marks j h0 hj⟩, h.sum⟩
      · refine ⟨false, Ev.bind (l01Name_eq nm hs) ?_, ⟨fun h => absurd h (by decide), fun h => absurd h.lm hm⟩⟩
        rw [hnm]
        simp only [if_true, l00In_eq, Option.bind_some, decide_eq_true h18]
        rw [show ((m.length : Int) != (l.length : Int)) = true by simp; omega]
        exact hj
    · refine ⟨false, Ev.bind (l01Name_eq nm hs) ?_, ⟨fun h => absurd h (by decide), fun h => absurd h.l1 (by have := h.l8; omega)⟩⟩
      rw [hnm]
      simp only [if_true, l00In_eq, Option.bind_some, decide_eq_false h18, Bool.false_eq_true, if_false]
      exact hj
theorem ValidTala_eq (nm : ByteArray) (l m : List Int) (hs : nm.size ≤ 9223372036854775806) : ∃ b : Bool, Ev (fun k => impl_ValidTala.f k nm l m) b ∧ (b = true ↔ OkTala nm l m) := by
  unfold impl_ValidTala.f
  cases hnm : isNm nm with
  | false =>
    refine ⟨false, Ev.bind (IsName_eq nm hs) ?_, ⟨fun h => absurd h (by decide), fun h => absurd h.name (by rw [hnm]; decide)⟩⟩
    rw [hnm]
    simp only [Bool.false_eq_true, if_false]
    exact Ev.now _
  | true =>
    have hno : ∀ g : Nat → Option Bool, ¬ OkTala nm l m → Ev g false → ∃ b : Bool, Ev (fun k => (impl_IsName.f k nm).bind fun t265 => if t265 = true then g k else some false) b ∧ (b = true ↔ OkTala nm l m) := by
      intro g hh hg
      refine ⟨false, Ev.bind (IsName_eq nm hs) ?_, ⟨fun h => absurd h (by decide), fun h => absurd h hh⟩⟩
      rw [hnm]
      simp only [if_true]
      exact hg
    by_cases h1 : (l.length : Int) < 1
    · refine hno _ (fun h => absurd h.l1 (by omega)) ?_
      simp only [if_pos h1]
      exact Ev.now _
    · by_cases h8 : (l.length : Int) > 8
      · refine hno _ (fun h => absurd h.l8 (by omega)) ?_
        simp only [if_neg h1, if_pos h8]
        exact Ev.now _
      · cases hall : l.all fun n => decide (1 ≤ n ∧ n ≤ 16) with
        | false =>
          refine hno _ (fun h => ?_) ?_
          · have := all_of_rd l (fun x => 1 ≤ x ∧ x ≤ 16) h.secs
            have h3 : (l.all fun n => decide (1 ≤ n ∧ n ≤ 16)) = true := List.all_eq_true.2 (fun x hx => decide_eq_true (this x hx))
            rw [hall] at h3
            exact absurd h3 (by decide)
          · simp only [if_neg h1, if_neg h8, impl_allWithin.f, hall, Option.bind_some, Bool.false_eq_true, if_false]
            exact Ev.now _
        | true =>
          have hx : ∀ x ∈ l, 1 ≤ x ∧ x ≤ 16 := fun x hx => of_decide_eq_true (List.all_eq_true.1 hall x hx)
          have hb : Ev (fun k => impl_Tala_beats.f k nm l m) (sumL l) := Ev.bind (sumOf_eq l hx (by omega)) (Ev.now _)
          by_cases hsum : sumL l > 32
          · refine hno _ (fun h => absurd h.sum (by omega)) ?_
            simp only [if_neg h1, if_neg h8, impl_allWithin.f, hall, Option.bind_some, if_true]
            refine Ev.bind hb ?_
            simp only [if_pos hsum]
            exact Ev.now _
          · by_cases hm : (m.length : Int) = (l.length : Int)
            · have hm0 : (0 : Int) < (m.length : Int) := by omega
              by_cases hsam : rd m 0 = 1
              · refine ⟨(m.drop 1).all fun n => decide (2 ≤ n ∧ n ≤ 3), Ev.bind (IsName_eq nm hs) ?_, ?_⟩
                · rw [hnm]
                  simp only [if_true, if_neg h1, if_neg h8, impl_allWithin.f, hall, Option.bind_some]
                  refine Ev.bind hb ?_
                  simp only [if_neg hsum, if_pos hm, if_pos hm0, if_pos hsam, if_pos (show (1 : Int) ≤ (m.length : Int) by omega)]
                  exact Ev.now _
                · rw [List.all_eq_true]
                  constructor
                  · intro h
                    refine ⟨hnm, by omega, by omega, by omega, rd_of_all l _ hx, hsam, fun j h0 hj => ?_, by omega⟩
                    have hj2 : j < m.length := by omega
                    have h4 := h m[j] (by
                      rw [List.mem_iff_getElem]
                      refine ⟨j - 1, by rw [List.length_drop]; omega, ?_⟩
                      rw [List.getElem_drop]
                      congr 1
                      omega)
                    rw [rd_mem m j hj2]
                    exact of_decide_eq_true h4
                  · intro h x hx2
                    obtain ⟨j, hj, rfl⟩ := List.mem_iff_getElem.1 hx2
                    rw [List.length_drop] at hj
                    have h5 := h.marks (1 + j) (by omega) (by omega)
                    rw [rd_mem m (1 + j) (by omega)] at h5
                    rw [List.getElem_drop]
                    exact decide_eq_true h5
              · refine hno _ (fun h => hsam h.sam) ?_
                simp only [if_neg h1, if_neg h8, impl_allWithin.f, hall, Option.bind_some, if_true]
                refine Ev.bind hb ?_
                simp only [if_neg hsum, if_pos hm, if_pos hm0, if_neg hsam]
                exact Ev.now _
            · refine hno _ (fun h => hm (by have := h.lm; omega)) ?_
              simp only [if_neg h1, if_neg h8, impl_allWithin.f, hall, Option.bind_some, if_true]
              refine Ev.bind hb ?_
              simp only [if_neg hsum, if_neg hm]
              exact Ev.now _
theorem bool_same {a b : Bool} {P : Prop} (h : a = true ↔ P) (h' : b = true ↔ P) : a = b := by
  cases a <;> cases b <;> simp_all
end Go.Proofs.YtjnfkomadgfggaaGreatDoor.Pu
end
section
namespace Go.Proofs.YtjnfkomadgfggaaGreatDoor.Pu
set_option linter.unusedSimpArgs false
set_option linter.unusedVariables false
open Go.RowKit Go.Proofs.YtjnfkomadgfggaaGreatDoorW.PrintWords Go.Proofs.YtjnfkomadgfggaaGreatDoor.PR
theorem l09Ok_l0 (l : List S72) (hl : l.length ≤ 1048576) (d : Nat) : ∀ i : Nat, i + d = l.length → Ev (fun k => spec_l09Ok.l0 k l (i : Int)) ((l.drop i).all okNote && decide (l.length ≤ 48)) := by
  induction d with
  | zero =>
    intro i hi
    apply Ev_succ
    simp only [spec_l09Ok.l0, if_neg (show ¬ ((i : Int) < (l.length : Int)) by omega), List.drop_of_length_le (show l.length ≤ i by omega), List.all_nil, Bool.true_and]
    rw [show decide ((l.length : Int) ≤ 48) = decide (l.length ≤ 48) by simp; omega]
    exact Ev.now _
  | succ d ih =>
    intro i hi
    have hlt : i < l.length := by omega
    have h2 := ih (i + 1) (by omega)
    rw [show ((i + 1 : Nat) : Int) = (i : Int) + 1 by omega] at h2
    apply Ev_succ
    simp only [spec_l09Ok.l0, spec_l03Pitch.f, spec_l09Length.f, l00In_eq, Option.bind_some, if_pos (show (i : Int) < (l.length : Int) by omega), if_pos (show 0 ≤ (i : Int) by omega), wr (show -9223372036854775808 ≤ (i : Int) + 1 by omega) (by omega)]
    rw [dropN_rd l i hlt, List.all_cons]
    unfold okNote
    by_cases h : -12 ≤ (rd_T72 l (i : Int)).f0 ∧ (rd_T72 l (i : Int)).f0 ≤ 23
    · by_cases h3 : 1 ≤ (rd_T72 l (i : Int)).f1 ∧ (rd_T72 l (i : Int)).f1 ≤ 64
      · simp only [decide_eq_true h, decide_eq_true h3, if_true, Bool.true_and]
        exact h2
      · simp only [decide_eq_true h, decide_eq_false h3, if_true, Bool.false_eq_true, if_false, Bool.false_and, Bool.and_false]
        exact Ev.now _
    · simp only [decide_eq_false h, Bool.false_eq_true, if_false, Bool.false_and]
      exact Ev.now _
theorem l09Ok_eq (l : List S72) (hl : l.length ≤ 1048576) : Ev (fun k => spec_l09Ok.f k l) (okMel l) := by
  unfold spec_l09Ok.f okMel
  rw [Bool.and_comm]
  exact l09Ok_l0 l hl l.length 0 (by omega)
end Go.Proofs.YtjnfkomadgfggaaGreatDoor.Pu
end
section
namespace Go.Proofs.YtjnfkomadgfggaaGreatDoor.Pu
set_option linter.unusedSimpArgs false
set_option linter.unusedVariables false
open Go.RowKit Go.Proofs.YtjnfkomadgfggaaGreatDoorW.PrintWords Go.Proofs.YtjnfkomadgfggaaGreatDoor.PR
theorem codes_same (m : List S72) (nm : ByteArray) (l ms : List Int) (sp : Int) (hm : m.length ≤ 1048576) (hs : nm.size ≤ 9223372036854775806) :
    ∃ b : Bool, (b = true ↔ OkTala nm l ms) ∧ Ev (fun k => spec_l25Ask.f k m [(⟨nm, l, ms⟩ : S33)] sp) (if okMel m = true ∧ b = true then (if 1 ≤ sp ∧ sp ≤ 8 then 0 else 2) else 1) ∧
      Ev (fun k => impl_notationCode.f k m nm l ms sp) (if okMel m = true ∧ b = true then (if 1 ≤ sp ∧ sp ≤ 8 then 0 else 2) else 1) := by
  obtain ⟨b, hb, hiff⟩ := l17Ok_eq nm l ms hs
  obtain ⟨b', hb', hiff'⟩ := ValidTala_eq nm l ms hs
  obtain rfl := bool_same hiff hiff'
  have hask : Ev (fun k => spec_l25Ask.f k m [(⟨nm, l, ms⟩ : S33)] sp) (if okMel m = true ∧ b = true then (if 1 ≤ sp ∧ sp ≤ 8 then 0 else 2) else 1) := by
    unfold spec_l25Ask.f
    refine Ev.bind (l09Ok_eq m hm) ?_
    cases hk : okMel m with
    | false =>
      simp only [Bool.false_eq_true, if_false, false_and]
      apply Ev_succ
      simp only [spec_l25Ask.j0, if_true]
      exact Ev.now _
    | true =>
      simp only [if_true, true_and]
      refine Ev.bind hb ?_
      apply Ev_succ
      cases b with
      | false => simp only [spec_l25Ask.j0, Bool.not_false, if_true, Bool.false_eq_true, if_false]; exact Ev.now _
      | true =>
        simp only [spec_l25Ask.j0, Bool.not_true, Bool.false_eq_true, if_false, if_true, l00In_eq, Option.bind_some]
        by_cases h : 1 ≤ sp ∧ sp ≤ 8
        · simp only [decide_eq_true h, if_pos h, if_true]; exact Ev.now _
        · simp only [decide_eq_false h, if_neg h, Bool.false_eq_true, if_false]; exact Ev.now _
  have hcode : Ev (fun k => impl_notationCode.f k m nm l ms sp) (if okMel m = true ∧ b = true then (if 1 ≤ sp ∧ sp ≤ 8 then 0 else 2) else 1) := by
    unfold impl_notationCode.f
    refine Ev.bind (ValidMelody_eq m hm) ?_
    cases hk : okMel m with
    | false =>
      simp only [Bool.false_eq_true, if_false, false_and]
      apply Ev_succ
      simp only [impl_notationCode.j0, if_true]
      exact Ev.now _
    | true =>
      simp only [if_true, true_and]
      refine Ev.bind hb' ?_
      apply Ev_succ
      cases b with
      | false => simp only [impl_notationCode.j0, Bool.not_false, if_true, Bool.false_eq_true, if_false]; exact Ev.now _
      | true =>
        simp only [impl_notationCode.j0, Bool.not_true, Bool.false_eq_true, if_false, if_true, within_eq, Option.bind_some]
        by_cases h : 1 ≤ sp ∧ sp ≤ 8
        · simp only [decide_eq_true h, if_pos h, if_true]; exact Ev.now _
        · simp only [decide_eq_false h, if_neg h, Bool.false_eq_true, if_false]; exact Ev.now _
  exact ⟨b, hiff, hask, hcode⟩
end Go.Proofs.YtjnfkomadgfggaaGreatDoor.Pu
end
section
namespace Go.Proofs.YtjnfkomadgfggaaGreatDoor.Pu
set_option linter.unusedSimpArgs false
set_option linter.unusedVariables false
open Go.RowKit Go.Proofs.YtjnfkomadgfggaaGreatDoorW.PrintWords Go.Proofs.YtjnfkomadgfggaaGreatDoor.PR
theorem eqInt64S_l0 (l : List Int) (hl : l.length ≤ 1048576) (d : Nat) : ∀ i : Nat, i + d = l.length → Ev (fun k => laws_eqInt64S.l0 k l l (i : Int)) true := by
  induction d with
  | zero =>
    intro i hi
    apply Ev_succ
    simp only [laws_eqInt64S.l0, if_neg (show ¬ ((i : Int) < (l.length : Int)) by omega)]
    exact Ev.now _
  | succ d ih =>
    intro i hi
    apply Ev_succ
    simp only [laws_eqInt64S.l0, if_pos (show (i : Int) < (l.length : Int) by omega), if_pos (show 0 ≤ (i : Int) by omega), if_true, wr (show -9223372036854775808 ≤ (i : Int) + 1 by omega) (by omega)]
    have h2 := ih (i + 1) (by omega)
    rwa [show ((i + 1 : Nat) : Int) = (i : Int) + 1 by omega] at h2
theorem eqInt64S_eq (l : List Int) (hl : l.length ≤ 1048576) : Ev (fun k => laws_eqInt64S.f k l l) true := by
  unfold laws_eqInt64S.f
  simp only [if_true]
  exact eqInt64S_l0 l hl l.length 0 (by omega)
end Go.Proofs.YtjnfkomadgfggaaGreatDoor.Pu
end
section
namespace Go.Proofs.YtjnfkomadgfggaaGreatDoor.Pu
set_option linter.unusedSimpArgs false
set_option linter.unusedVariables false
open Go.RowKit Go.Proofs.YtjnfkomadgfggaaGreatDoorW.PrintWords Go.Proofs.YtjnfkomadgfggaaGreatDoor.PR
theorem toInt64S_l0 (l : List Int) (hl : l.length ≤ 1048576) (d : Nat) : ∀ i : Nat, i + d = l.length → Ev (fun k => laws_toInt64S.l0 k l (l.take i ++ List.replicate d 0) (i : Int)) l := by
  induction d with
  | zero =>
    intro i hi
    apply Ev_succ
    simp only [laws_toInt64S.l0, if_neg (show ¬ ((i : Int) < (l.length : Int)) by omega), List.take_of_length_le (show l.length ≤ i by omega), List.replicate_zero, List.append_nil]
    exact Ev.now _
  | succ d ih =>
    intro i hi
    have hlt : i < l.length := by omega
    have hlen : (l.take i ++ List.replicate (d + 1) (0 : Int)).length = l.length := by
      rw [List.length_append, List.length_take, List.length_replicate]
      omega
    have hrd : rd l (i : Int) = l[i] := by simp [rd, List.getD_eq_getElem?_getD, List.getElem?_eq_getElem hlt]
    apply Ev_succ
    simp only [laws_toInt64S.l0, hlen, if_pos (show (i : Int) < (l.length : Int) by omega), if_pos (show 0 ≤ (i : Int) by omega), Int.toNat_natCast, wr (show -9223372036854775808 ≤ (i : Int) + 1 by omega) (by omega)]
    rw [set_copy l 0 i d hi (rd l (i : Int)) (by rw [hrd]; exact List.getElem?_eq_getElem hlt)]
    have h2 := ih (i + 1) (by omega)
    rwa [show ((i + 1 : Nat) : Int) = (i : Int) + 1 by omega] at h2
theorem toInt64S_eq (l : List Int) (hl : l.length ≤ 1048576) : Ev (fun k => laws_toInt64S.f k l) l := by
  unfold laws_toInt64S.f
  simp only [if_pos (show 0 ≤ (l.length : Int) by omega), Int.toNat_natCast, if_pos (show l.length ≤ 35184372088832 by omega)]
  exact toInt64S_l0 l hl l.length 0 (by omega)
end Go.Proofs.YtjnfkomadgfggaaGreatDoor.Pu
end
section
namespace Go.Proofs.YtjnfkomadgfggaaGreatDoor.Pu
set_option linter.unusedSimpArgs false
set_option linter.unusedVariables false
open Go.RowKit Go.Proofs.YtjnfkomadgfggaaGreatDoorW.PrintWords Go.Proofs.YtjnfkomadgfggaaGreatDoor.PR
theorem szInt64S_eq (l : List Int) (a : Int) (h : l.length ≤ 9223372036854775807) (a0 : 0 ≤ a) (a1 : a ≤ 1048576) : laws_szInt64S.f l a = some (if a - (l.length : Int) < 0 then -1 else a - (l.length : Int)) := by
  unfold laws_szInt64S.f
  rw [wr (show -9223372036854775808 ≤ a - (l.length : Int) by omega) (by omega)]
  split <;> rfl
theorem toTala_eq (nm : ByteArray) (l ms : List Int) (h1 : l.length ≤ 1048576) (h2 : ms.length ≤ 1048576) : Ev (fun k => laws_toTala.f k nm l ms) (nm, l, ms) := by
  unfold laws_toTala.f
  exact Ev.bind (toInt64S_eq l h1) (Ev.bind (toInt64S_eq ms h2) (Ev.now _))
theorem eqTala_eq (nm : ByteArray) (l ms : List Int) (h1 : l.length ≤ 1048576) (h2 : ms.length ≤ 1048576) : Ev (fun k => laws_eqTala.f k nm l ms nm l ms) true := by
  unfold laws_eqTala.f
  simp only [if_true]
  refine Ev.bind (eqInt64S_eq l h1) ?_
  simp only [if_true]
  refine Ev.bind (eqInt64S_eq ms h2) ?_
  simp only [if_true]
  exact Ev.now _
end Go.Proofs.YtjnfkomadgfggaaGreatDoor.Pu
end
section
namespace Go.Proofs.YtjnfkomadgfggaaGreatDoor.Pu
set_option linter.unusedSimpArgs false
set_option linter.unusedVariables false
open Go.RowKit Go.Proofs.YtjnfkomadgfggaaGreatDoorW.PrintWords Go.Proofs.YtjnfkomadgfggaaGreatDoor.PR
theorem wrong_l0 (nm : ByteArray) (l ms : List Int) (sp : Int) (h1 : 1 ≤ l.length) (s : List Int) (hs : s.length ≤ 1000000) (d : Nat) : ∀ i : Nat, i + d = s.length →
    ∃ r, Ev (fun k => spec_WrongBar.l0 k sp s (i : Int) nm l ms) r ∧ Ev (fun k => impl_WrongBar.l0 k sp s s (s.length : Int) (i : Int) nm l ms) r := by
  induction d with
  | zero =>
    intro i hi
    refine ⟨(0, 0, 3), ?_, ?_⟩
    · apply Ev_succ
      simp only [spec_WrongBar.l0, if_neg (show ¬ ((i : Int) < (s.length : Int)) by omega)]
      exact Ev.now _
    · apply Ev_succ
      simp only [impl_WrongBar.l0, if_neg (show ¬ ((i : Int) < (s.length : Int)) by omega)]
      exact Ev.now _
  | succ d ih =>
    intro i hi
    obtain ⟨r, hr1, hr2⟩ := ih (i + 1) (by omega)
    rw [show ((i + 1 : Nat) : Int) = (i : Int) + 1 by omega] at hr1 hr2
    have e1 : (i : Int) < (s.length : Int) := by omega
    have e2 : ¬ ((l.length : Int) = 0) := by omega
    have e3 : 0 ≤ Int.tmod (i : Int) (l.length : Int) := Int.tmod_nonneg _ (by omega)
    have e4 : Int.tmod (i : Int) (l.length : Int) < (l.length : Int) := Int.tmod_lt_of_pos _ (by omega)
    have e5 : (0 : Int) ≤ (i : Int) := by omega
    have e6 : wrap64 ((s.length : Int) - 1) = (s.length : Int) - 1 := wr (by omega) (by omega)
    have e7 : wrap64 ((i : Int) + 1) = (i : Int) + 1 := wr (by omega) (by omega)
    generalize hw : wrap64 ((rd l (Int.tmod (i : Int) (l.length : Int))) * sp) = want
    generalize hv : rd s (i : Int) = v
    have hgo : ∀ q, Ev (fun k => if v > want then some ((i : Int), want, (0 : Int)) else (if (i : Int) < (s.length : Int) - 1 then (if v < want then some ((i : Int), want, 0) else (if v = 0 then some ((i : Int), want, 0) else spec_WrongBar.l0 k sp s ((i : Int) + 1) nm l ms)) else (if v = 0 then some ((i : Int), want, 0) else spec_WrongBar.l0 k sp s ((i : Int) + 1) nm l ms))) q →
        Ev (fun k => if v = 0 then some ((i : Int), want, (0 : Int)) else (if v > want then some ((i : Int), want, 0) else (if v < want then (if (i : Int) < (s.length : Int) - 1 then some ((i : Int), want, 0) else impl_WrongBar.l0 k sp s s (s.length : Int) ((i : Int) + 1) nm l ms) else impl_WrongBar.l0 k sp s s (s.length : Int) ((i : Int) + 1) nm l ms))) q →
        ∃ r, Ev (fun k => spec_WrongBar.l0 k sp s (i : Int) nm l ms) r ∧ Ev (fun k => impl_WrongBar.l0 k sp s s (s.length : Int) (i : Int) nm l ms) r := by
      intro q h2 h3
      refine ⟨q, ?_, ?_⟩
      · apply Ev_succ
        simp only [spec_WrongBar.l0, if_pos e1, if_neg e2, if_pos e3, if_pos e4, if_pos e5, hw, hv, e6, e7]
        exact h2
      · apply Ev_succ
        simp only [impl_WrongBar.l0, if_pos e1, if_neg e2, if_pos e3, if_pos e4, if_pos e5, hw, hv, e6, e7]
        exact h3
    by_cases c1 : v = 0
    · refine hgo ((i : Int), want, 0) ?_ ?_
      · simp only [if_pos c1, ite_self]
        exact Ev.now _
      · simp only [if_pos c1]
        exact Ev.now _
    · by_cases c2 : v > want
      · refine hgo ((i : Int), want, 0) ?_ ?_
        · simp only [if_pos c2]
          exact Ev.now _
        · simp only [if_neg c1, if_pos c2]
          exact Ev.now _
      · by_cases c3 : v < want
        · by_cases c4 : (i : Int) < (s.length : Int) - 1
          · refine hgo ((i : Int), want, 0) ?_ ?_
            · simp only [if_neg c2, if_pos c4, if_pos c3]
              exact Ev.now _
            · simp only [if_neg c1, if_neg c2, if_pos c3, if_pos c4]
              exact Ev.now _
          · refine hgo r ?_ ?_
            · simp only [if_neg c2, if_neg c4, if_neg c1]
              exact hr1
            · simp only [if_neg c1, if_neg c2, if_pos c3, if_neg c4]
              exact hr2
        · refine hgo r ?_ ?_
          · simp only [if_neg c2, if_neg c3, if_neg c1, ite_self]
            exact hr1
          · simp only [if_neg c1, if_neg c2, if_neg c3]
            exact hr2
theorem WrongBar_same (t : List UInt8) (nm : ByteArray) (l ms : List Int) (sp : Int) (hs : nm.size ≤ 9223372036854775806) :
    ∃ r, Ev (fun k => spec_WrongBar.f k ⟨t.toArray⟩ nm l ms sp) r ∧ Ev (fun k => impl_WrongBar.f k ⟨t.toArray⟩ nm l ms sp) r := by
  obtain ⟨b, hiff, hask, hcode⟩ := codes_same [] nm l ms sp (by simp) hs
  have hT : Ev (fun k => spec_l25Tala.f k [(⟨nm, l, ms⟩ : S33)] sp) (if okMel ([] : List S72) = true ∧ b = true then (if 1 ≤ sp ∧ sp ≤ 8 then 0 else 2) else 1) := Ev.bind hask (Ev.now _)
  generalize hc : (if okMel ([] : List S72) = true ∧ b = true then (if 1 ≤ sp ∧ sp ≤ 8 then (0 : Int) else 2) else 1) = code at hT hcode
  unfold spec_WrongBar.f impl_WrongBar.f
  have hout : ∀ (ws : List S74) (c : Int), ¬ c = 0 → Ev (fun k => impl_readWords.f k ⟨t.toArray⟩ nm l ms sp) (ws, c) → Ev (fun k => (impl_readWords.f k ⟨t.toArray⟩ nm l ms sp).bind fun bt308 => if bt308.2 = 0 then (impl_barSums.f k bt308.1).bind fun t312 => impl_WrongBar.l0 k sp t312 t312 (t312.length : Int) 0 nm l ms else some (0, 0, bt308.2)) (0, 0, c) := by
    intro ws c hne h
    refine Ev.bind h ?_
    simp only [if_neg hne]
    exact Ev.now _
  by_cases h0 : code = 0
  · subst h0
    have hb : b = true := by
      by_cases hx : okMel ([] : List S72) = true ∧ b = true
      · exact hx.2
      · rw [if_neg hx] at hc
        omega
    have ht := hiff.1 hb
    by_cases h1 : 2000 < t.length
    · refine ⟨(0, 0, 5), ?_, hout [] 5 (by omega) ?_⟩
      · refine Ev.bind hT ?_
        simp only [if_true, spec_l25Long.f, size_mk, if_pos (show (t.length : Int) > 2000 by omega), Option.bind_some, show ¬ ((5 : Int) = 0) by omega, if_false]
        exact Ev.now _
      · unfold impl_readWords.f
        refine Ev.bind hcode ?_
        simp only [if_true, size_mk, if_pos (show (t.length : Int) > 2000 by omega)]
        exact Ev.now _
    · obtain ⟨r, hr1, hr2⟩ := sTokens t (by omega)
      obtain ⟨w, hw1, hw2⟩ := iWords t (by omega)
      have hsp : ∀ q, Ev (fun k => if r.2.2 = true then spec_WrongBar.l0 k sp r.2.1 0 nm l ms else some (0, 0, 8)) q → Ev (fun k => (spec_l25Tala.f k [(⟨nm, l, ms⟩ : S33)] sp).bind fun t189 => if t189 = 0 then (spec_l25Long.f ⟨t.toArray⟩).bind fun t190 => if t190 = 0 then (spec_l25Tokens.f k ⟨t.toArray⟩).bind fun bt191 => if bt191.2.2 = true then spec_WrongBar.l0 k sp bt191.2.1 0 nm l ms else some (0, 0, 8) else some (0, 0, 5) else some (0, 0, t189)) q := by
        intro q hq
        refine Ev.bind hT ?_
        simp only [if_true, spec_l25Long.f, size_mk, if_neg (show ¬ ((t.length : Int) > 2000) by omega), Option.bind_some]
        exact Ev.bind hr1 hq
      have hrw : ∀ q, Ev (fun k => if w.2 = true then some (w.1, (0 : Int)) else some (([] : List S74), 8)) q → Ev (fun k => impl_readWords.f k ⟨t.toArray⟩ nm l ms sp) q := by
        intro q hq
        unfold impl_readWords.f
        refine Ev.bind hcode ?_
        simp only [if_true, size_mk, if_neg (show ¬ ((t.length : Int) > 2000) by omega)]
        exact Ev.bind hw1 hq
      cases htok : tokR t with
      | none =>
        rw [htok] at hr2 hw2
        have hr3 : r.2 = ([], false) := hr2
        have hw3 : w.2 = false := hw2
        refine ⟨(0, 0, 8), hsp _ ?_, hout [] 8 (by omega) (hrw _ ?_)⟩
        · simp only [hr3, Bool.false_eq_true, if_false]
          exact Ev.now _
        · simp only [hw3, Bool.false_eq_true, if_false]
          exact Ev.now _
      | some s =>
        have hlen := tokR_length t (by omega) s htok
        rw [htok] at hr2 hw2
        have hr3 : r.2 = (s, true) := hr2
        obtain ⟨hw3, hw4⟩ : w.2 = true ∧ Ev (fun k => impl_barSums.f k w.1) s := hw2
        obtain ⟨q, hq1, hq2⟩ := wrong_l0 nm l ms sp ht.l1 s (by omega) s.length 0 (by omega)
        refine ⟨q, hsp _ ?_, ?_⟩
        · simp only [hr3, if_true]
          exact hq1
        · refine Ev.bind (hrw (w.1, 0) ?_) ?_
          · simp only [hw3, if_true]
            exact Ev.now _
          · simp only [if_true]
            exact Ev.bind hw4 hq2
  · refine ⟨(0, 0, code), ?_, hout [] code h0 ?_⟩
    · refine Ev.bind hT ?_
      simp only [if_neg h0]
      exact Ev.now _
    · unfold impl_readWords.f
      refine Ev.bind hcode ?_
      simp only [if_neg h0]
      exact Ev.now _
theorem lawW (t : ByteArray) (nm : ByteArray) (l ms : List Int) (sp : Int) (ht : t.size ≤ 9223372036854775807) (hn : nm.size ≤ 9223372036854775807) (hl : l.length ≤ 9223372036854775807 ∧ ∀ x ∈ l, (Lit.int .i64 x).wf = true) (hms : ms.length ≤ 9223372036854775807 ∧ ∀ x ∈ ms, (Lit.int .i64 x).wf = true) (_ : (Lit.int .i64 sp).wf = true) :
    ∃ n, laws_FnExactWrongBar.f n t nm l ms sp = some true := by
  have hz : Ev (fun n => laws_FnExactWrongBar.f n t nm l ms sp) true := by
    have hl' := hl.1
    have hms' := hms.1
    unfold laws_FnExactWrongBar.f
    by_cases h1 : (t.size : Int) > 1048576
    · simp only [if_pos h1]
      exact Ev.now _
    · simp only [if_neg h1]
      unfold laws_szTala.f
      rw [wr (show -9223372036854775808 ≤ (1048576 : Int) - (nm.size : Int) by omega) (by omega)]
      by_cases h2 : (1048576 : Int) - (nm.size : Int) < 0
      · simp only [if_pos h2, Option.bind_some, show (-1 : Int) < 0 from by omega, if_true]
        exact Ev.now _
      · simp only [if_neg h2, szInt64S_eq l _ hl' (show (0 : Int) ≤ (1048576 : Int) - (nm.size : Int) by omega) (by omega), Option.bind_some]
        by_cases h3 : (1048576 : Int) - (nm.size : Int) - (l.length : Int) < 0
        · simp only [if_pos h3, Option.bind_some, show (-1 : Int) < 0 from by omega, if_true]
          exact Ev.now _
        · simp only [if_neg h3, szInt64S_eq ms _ hms' (show (0 : Int) ≤ (1048576 : Int) - (nm.size : Int) - (l.length : Int) by omega) (by omega), Option.bind_some]
          by_cases h4 : (1048576 : Int) - (nm.size : Int) - (l.length : Int) - (ms.length : Int) < 0
          · simp only [if_pos h4, Option.bind_some, show (-1 : Int) < 0 from by omega, if_true]
            exact Ev.now _
          · simp only [if_neg h4, Option.bind_some]
            have es : t = ⟨t.data.toList.toArray⟩ := by cases t; simp
            obtain ⟨r, hs, hi⟩ := WrongBar_same t.data.toList nm l ms sp (by omega)
            rw [← es] at hs hi
            refine Ev.bind (toTala_eq nm l ms (by omega) (by omega)) ?_
            refine Ev.bind hs ?_
            refine Ev.bind (toTala_eq nm l ms (by omega) (by omega)) ?_
            refine Ev.bind hi ?_
            simp only [if_true, bne_self_eq_false]
            apply Ev_succ
            simp only [laws_FnExactWrongBar.j0, Bool.false_eq_true, if_false]
            refine Ev.bind (toTala_eq nm l ms (by omega) (by omega)) ?_
            refine Ev.bind (eqTala_eq nm l ms (by omega) (by omega)) ?_
            simp only [if_true]
            exact Ev.now _
  exact hz.rounds
end Go.Proofs.YtjnfkomadgfggaaGreatDoor.Pu
end
section
namespace Go.Proofs.YtjnfkomadgfggaaGreatDoor.fnExactWrongBar
open Go.ChangeShapes Go.WideShapes Go.ChangeAt Go.RowKit Go.Proofs.YtjnfkomadgfggaaGreatDoorY Go.Proofs.YtjnfkomadgfggaaGreatDoorW.PrintWords Go.Proofs.YtjnfkomadgfggaaGreatDoor.PR
open Go.ChangeMaps (open_string shut_string)
set_option linter.unusedVariables false
theorem own : ownKnob Tryz.prog.godebug = none := by kernel_rfl
theorem laidOut : laidOutB Tryz.prog = true := by kernel_rfl
def laid : List (String × DataW Unit) := [("math/bits.deBruijn32tab", Rows.laid_math_bits_deBruijn32tab), ("math/bits.deBruijn64tab", Rows.laid_math_bits_deBruijn64tab), ("internal/strconv.uint64pow10", Rows.laid_internal_strconv_uint64pow10), ("unicode/utf8.acceptRanges", Rows.laid_unicode_utf8_acceptRanges), ("strconv.ErrRange", Rows.laid_strconv_ErrRange), ("strconv.ErrSyntax", Rows.laid_strconv_ErrSyntax), ("unicode/utf8.first", Rows.laid_unicode_utf8_first)]
theorem lv_of {W : World} (h : laidMetH Tryz.prog laid W) (hs : W.ShapedOpen Tryz.prog) : Lv W :=
  ⟨tab_laid (zs := Lib.pow10Tab) (n := 20) (by rw [show (Lib.tabData .u64 Lib.pow10Tab : DataW Unit) = Rows.laid_internal_strconv_uint64pow10 by kernel_rfl]; simp [laid]) (show Tryz.prog.globalNamed "internal/strconv.uint64pow10" = some 5 by kernel_rfl) (by kernel_rfl) Tryz.underlying189 Tryz.underlying88 (by kernel_rfl) (by kernel_rfl) h (by kernel_rfl), cell_of_shapedOpen_int (g := 0) (t := 3) (zero := #[.int .i64 0]) hs (of_decide_eq_true (by kernel_rfl)) (by kernel_rfl) rfl (by kernel_rfl) (by kernel_rfl) Tryz.underlying3, iface_laid (name := "strconv.ErrSyntax") (.tail _ (.tail _ (.tail _ (.tail _ (.tail _ (.head _)))))) (show Tryz.prog.globalNamed "strconv.ErrSyntax" = some 3 by kernel_rfl) (by kernel_rfl) Tryz.underlying126 h (by kernel_rfl), iface_laid (name := "strconv.ErrRange") (.tail _ (.tail _ (.tail _ (.tail _ (.head _))))) (show Tryz.prog.globalNamed "strconv.ErrRange" = some 4 by kernel_rfl) (by kernel_rfl) Tryz.underlying126 h (by kernel_rfl)⟩
set_option maxRecDepth 100000 in
theorem lifted (os : Os) (started : os.Started) (H : Type) (enc : TypeId × Value → H) :
    ReturnsInHanded {} Tryz.checked os 4 .any (fun w args => (Rows.fnExactWrongBarSpec.pre enc Tryz.prog Tryz.f4 [] false w args ∧ laidMetH Tryz.prog laid w) ∧ sizedMet enc Tryz.prog Tryz.f4 (OpenSpec.ofChange Rows.fnExactWrongBarSpec) false w args)
      (Rows.fnExactWrongBarSpec.post enc Tryz.prog Tryz.f4 false true false false) := by
  refine handed_shaped (C := Tryz.checked) (X := fun w _ => laidMetH Tryz.prog laid w) (fun _ _ _ hh h => h.of_heap hh) own started (by kernel_rfl) Tryz.func4
    (ChangeSpec.witness_shaped (enc := enc) (C := Tryz.checked) (os := os) (X := fun w _ => laidMetH Tryz.prog laid w) false (World.laidAll Tryz.prog os laid) #[.string ⟨#[]⟩, .agg #[.string ⟨#[]⟩, .slice none 0 0, .slice none 0 0], .int .i64 0] 8 (World.laidAll_os _ _ _) (World.shaped_of_ZipB (by kernel_rfl) (by kernel_rfl)) (by kernel_rfl) (by kernel_rfl) (by kernel_rfl) (by rw [MakeChecks.laidMetH_plain _ _ _ (by kernel_rfl)]; exact laidMet_laidAll _ (by kernel_rfl) (by kernel_rfl))) ?_
  intro W base args ds gs before hval0 hW _ hsz0 hL hSh _
  have hval : ∀ (j : Nat) t v, Tryz.f4.params[j]? = some t → args[j]? = some v → Value.okWide Tryz.prog W .any base t v := hval0
  have hW' := hW
  obtain ⟨p, q, hA0, hV, rfl, hfz, hnd⟩ := hW
  have hA : DataW.TrodAll enc Tryz.prog W 0 (fun _ => true) true Tryz.f4.params.toList args.toList ds p := hA0
  rw [Tryz.params4] at hA hval
  obtain ⟨v0, vs0, d0, ds0, p0, q0, hargs, rfl, rfl, h0, r0⟩ := trodAll_cons hA
  obtain ⟨v1, vs1, d1, ds1, p1, q1, rfl, rfl, rfl, h1, r1⟩ := trodAll_cons r0
  obtain ⟨v2, vs2, d2, ds2, p2, q2, rfl, rfl, rfl, h2, r2⟩ := trodAll_cons r1
  obtain ⟨rfl, rfl, rfl⟩ := trodAll_nil r2
  obtain rfl : args = #[v0, v1, v2] := by cases args; simp_all
  obtain ⟨rfl, rfl⟩ := trodVars_none hV
  have k0 := h0
  have lt0 : ∀ x ∈ p0, x.block < W.heap.size := by obtain ⟨m, hm⟩ := k0; exact DataW.trod_lt m _ _ _ hm
  obtain ⟨y0, rfl, rfl, rfl, w0⟩ := open_string Tryz.underlying9 (hval 0 9 v0 rfl rfl) h0
  have k1 := h1
  have lt1 : ∀ x ∈ p1, x.block < W.heap.size := by obtain ⟨m, hm⟩ := k1; exact DataW.trod_lt m _ _ _ hm
  obtain ⟨cs1, rfl, _⟩ := okWide_struct Tryz.underlying29 (hval 1 29 v1 rfl rfl)
  obtain ⟨fu1, hf1⟩ := h1
  obtain ⟨cl1⟩ := cs1
  obtain ⟨x1, hK1, hw1⟩ := (Opens.struct (P := Tryz.prog) (w := W) (f := fun x => x) (fun a => a) (fun _ => rfl) Tryz.underlying29 (by kernel_rfl) (OpensL.cons (Opens.string (w := W) Tryz.underlying9 (by kernel_rfl)) rfl (OpensL.cons (Opens.slice (w := W) Tryz.underlying22 (by kernel_rfl) (Opens.int (w := W) Tryz.underlying2 (by kernel_rfl))) rfl (OpensL.last (Opens.slice (w := W) Tryz.underlying22 (by kernel_rfl) (Opens.int (w := W) Tryz.underlying2 (by kernel_rfl))) rfl)))).2 _ _ _ _ _ _ _ _ hf1
  obtain ⟨y1_0, y1_1, y1_2⟩ := x1
  obtain ⟨w1_0, w1_1, w1_2⟩ := hw1
  simp only [Value.cells] at hK1
  obtain ⟨_, _, hq1_0, rfl, ⟨_, _, hq1_1, ⟨A1_1, c1_1, rfl, hc1_1, hr1_1⟩, ⟨A1_2, c1_2, rfl, hc1_2, hr1_2⟩⟩⟩ := hK1
  subst hq1_1
  replace hq1_0 : cl1 = [.string y1_0, .slice A1_1 y1_1.length c1_1, .slice A1_2 y1_2.length c1_2] := hq1_0
  subst hq1_0
  have k2 := h2
  have lt2 : ∀ x ∈ p2, x.block < W.heap.size := by obtain ⟨m, hm⟩ := k2; exact DataW.trod_lt m _ _ _ hm
  obtain ⟨y2, rfl, rfl, rfl, w2⟩ := open_int Tryz.underlying2 (hval 2 2 v2 rfl rfl) h2
  have hLv := lv_of hL hSh
  clear hA0 hval0 hsz0
  obtain ⟨k, hk⟩ := Pu.lawW y0 y1_0 y1_1 y1_2 y2 w0 w1_0 w1_1 w1_2 w2
  refine (laws_FnExactWrongBar.calls k y0 y1_0 A1_1 c1_1 y1_1 A1_2 c1_2 y1_2 y2 true W hr1_1 hc1_1 hr1_2 hc1_2 hLv hk).mono fun e W' ⟨he, bel⟩ => ?_
  subst he
  exact ⟨_, rfl, _, _, _, [], _, [], hW', trodAll_mk1 (shut_bool (show Tryz.prog.underlying 4 = some .bool by kernel_rfl) _), (trodAll_cons_mk (Below.trod laidOut (by kernel_rfl) (of_decide_eq_true (by kernel_rfl)) k0 bel lt0) (trodAll_cons_mk (Below.trod laidOut (by kernel_rfl) (of_decide_eq_true (by kernel_rfl)) k1 bel lt1) (trodAll_cons_mk (Below.trod laidOut (by kernel_rfl) (of_decide_eq_true (by kernel_rfl)) k2 bel lt2) trodAll_mk0))), rfl, bel.frame _, fun h => by cases h⟩
theorem over : Rows.fnExactWrongBarRow.holds Tryz.pinned (OpenSpec.ofChange Rows.fnExactWrongBarSpec) :=
  OpenClaim.holds_of_wide 4 Tryz.f4 rfl rfl rfl rfl rfl rfl rfl ⟨rfl, rfl, rfl, rfl, rfl⟩ rfl rfl rfl rfl rfl (by kernel_rfl) Tryz.func4 (by kernel_rfl)
    (of_decide_eq_true (by kernel_rfl)) (by unfold Func.isWrapper; first | (rw [if_pos (by decide +kernel)]; kernel_rfl) | (rw [if_neg (by decide +kernel)]; exact ⟨rfl, rfl⟩))
    (fun os started H enc _ => lifted os started H enc)
end Go.Proofs.YtjnfkomadgfggaaGreatDoor.fnExactWrongBar
namespace Go.Proofs.YtjnfkomadgfggaaGreatDoor
theorem fnExactWrongBar_row_holds : Rows.FnExactWrongBarSaid := fnExactWrongBar.over
theorem fnExactWrongBar_card : Rows.FnExactWrongBarCardSaid :=
  Claim7.holds_tied_plain_at .later [] [.data, .data, .data, .data, .sentinel, .sentinel, .pinned] true (true, "07c45f30f16228a83d029ecc89eabc3ea4ccda6b0ea1df41cd1a054e7a9fb50f") true
    fnExactWrongBar_row_holds (fun _ h => by cases h) (by kernel_rfl) (fun _ h => by cases h) fnExactWrongBar_row_tie rfl ⟨rfl, rfl⟩ (by kernel_rfl) rfl
    (fun f fn hf hfn => by
      obtain rfl : f = 4 := Option.some.inj ((show Tryz.prog.funcNamed "loop.example/g01033/laws.FnExactWrongBar" = some 4 by kernel_rfl).symm.trans hf) |>.symm
      obtain rfl : fn = Tryz.f4 := (Option.some.inj (Tryz.func4.symm.trans hfn)).symm
      exact ⟨by kernel_rfl, fun j t ht => by
        rw [Tryz.params4] at ht
        have hm : t ∈ [9, 29, 2] := by simpa using Array.mem_of_getElem? ht
        have hall : ([9, 29, 2].all fun u => !Tryz.prog.wantsStandIn u) = true := by kernel_rfl
        exact (show Tryz.prog.wantsStandIn t = false by simpa using List.all_eq_true.1 hall t hm)⟩)
    (by kernel_rfl)
end Go.Proofs.YtjnfkomadgfggaaGreatDoor
end
#print axioms Go.Proofs.YtjnfkomadgfggaaGreatDoor.fnExactWrongBar_card
