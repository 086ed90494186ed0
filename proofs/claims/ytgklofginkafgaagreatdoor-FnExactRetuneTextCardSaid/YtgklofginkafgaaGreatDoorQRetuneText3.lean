/- What is proved: fnExactRetuneText_card, without further conditions; this text holds part 4 of 4 of its proof. -/
import Derived.ProofKit
import Derived.LaidMore
import Derived.OpenShut
import Derived.ShutString
import Derived.ChangeOld
import Derived.Below
import Derived.SizedLaws
import Derived.Stop.Joined
import Derived.Lib.LaidTab
import Derived.Deep.Slices
import Derived.Shelf.Vars
import Derived.Test.YtgklofginkafgaaGreatDoorTie
import Derived.Test.YtgklofginkafgaaGreatDoorCards
import Derived.WalkKit
import Derived.Lay
import Derived.Test.YtgklofginkafgaaGreatDoorQRetuneText2
section
namespace Go.Proofs.YtgklofginkafgaaGreatDoorY
open Go.RowKit Go.ChangeShapes Go.Proofs.YtgklofginkafgaaGreatDoorW.PrintWords
def Opens (P : Program) (w : World) (t : TypeId) {α : Type} (d : Kd α) (wf : α → Prop) : Prop :=
 P.cellsOf t = d.sz ∧ ∀ (H : Type) (enc : TypeId × Value → H) (base : Nat) (sp : Nat → Bool) (held : Bool) (fuel : Nat) (cs : List Value) (x : DataW H × List MemPlace),
  DataW.trod enc P w base sp held fuel t cs = some x → ∃ a, d.K w a cs ∧ wf a
section
variable {P : Program} {w : World}
theorem Opens.int {t : TypeId} {k : IntKind} (ht : P.underlying t = some (.int k)) (hc : P.cellsOf t = 1) : Opens P w t (Kd.int k) (fun n => (Lit.int k n).wf = true) :=
 ⟨hc, fun H enc base sp held fuel cs x h => by
  obtain ⟨n, rfl, _, hw⟩ := DataW.trod_int ht h
  exact ⟨n, rfl, hw⟩⟩
theorem Opens.bool {t : TypeId} (ht : P.underlying t = some .bool) (hc : P.cellsOf t = 1) : Opens P w t Kd.bool (fun _ => True) :=
 ⟨hc, fun H enc base sp held fuel cs x h => by
  obtain ⟨b, rfl, _⟩ := DataW.trod_bool ht h
  exact ⟨b, rfl, trivial⟩⟩
theorem Opens.string {t : TypeId} (ht : P.underlying t = some .string) (hc : P.cellsOf t = 1) : Opens P w t Kd.string (fun s => s.size ≤ 9223372036854775807) :=
 ⟨hc, fun H enc base sp held fuel cs x h => by
  obtain ⟨s, rfl, _, hs⟩ := DataW.trod_string ht h
  exact ⟨s, rfl, hs⟩⟩
theorem choose_list {α : Type} {p : Nat → α → Prop} : ∀ (n : Nat), (∀ i, i < n → ∃ a, p i a) → ∃ l : List α, l.length = n ∧ ∀ i a, l[i]? = some a → p i a
 | 0, _ => ⟨[], rfl, fun i a h => by simp at h⟩
 | n + 1, h => by
  obtain ⟨l, hl, hp⟩ := choose_list n (fun i hi => h i (by omega))
  obtain ⟨a, ha⟩ := h n (by omega)
  refine ⟨l ++ [a], by simp [hl], fun i b hb => ?_⟩
  by_cases hi : i < n
  ·rw [List.getElem?_append_left (by omega)] at hb
   exact hp i b hb
  ·rw [List.getElem?_append_right (by omega)] at hb
   have h0 : i - l.length = 0 := by
    rcases Nat.eq_zero_or_pos (i - l.length) with h | h
    ·exact h
    ·rw [List.getElem?_eq_none (by simp; omega)] at hb; cases hb
   rw [h0] at hb
   simp at hb
   subst hb
   have : i = n := by omega
   subst this
   exact ha
theorem Opens.slice {t e : TypeId} {α : Type} {d : Kd α} {wf : α → Prop} (ht : P.underlying t = some (.slice e)) (hc : P.cellsOf t = 1) (o : Opens P w e d wf) :
  Opens P w t (Kd.slice e d) (fun l => l.length ≤ 9223372036854775807 ∧ ∀ a ∈ l, wf a) :=
 ⟨hc, fun H enc base sp held fuel cs x h => by
  rcases Go.Deep.open_slice ht h with ⟨rfl, _⟩ | ⟨a, len, cap, m, n, D, Pl, rfl, _, hl, hm, hmm, _, hx⟩
  ·exact ⟨[], ⟨none, 0, rfl, Nat.le_refl _, rfl, by simp, fun h => absurd h (by simp)⟩, by simp, by simp⟩
  ·have hle : len ≤ m := by rw [hmm]; split <;> omega
   have hmx : cap ≤ 9223372036854775807 := hm
   obtain ⟨l, hlen, hp⟩ := choose_list (p := fun i y => (∃ c, c.length = d.sz ∧ d.K w y c ∧ ∀ j u, c[j]? = some u → w.cell? (a.add (i * d.sz + j)) = some u) ∧ wf y) len (fun i hi => by
    obtain ⟨cs', h1, h2⟩ := hx i (by omega)
    obtain ⟨y, hK, hw⟩ := o.2 H enc base sp held n cs' _ h2
    obtain ⟨_, hl', hcell⟩ := World.cells?_some h1
    rw [o.1] at hl' hcell
    refine ⟨y, ⟨cs', hl', hK, fun j u hu => ?_⟩, hw⟩
    have hj : j < d.sz := by
     rcases Nat.lt_or_ge j cs'.length with h | h
     ·omega
     ·rw [List.getElem?_eq_none h] at hu; cases hu
    have := hcell j hj
    rw [add_add] at this
    rw [this, hu])
   refine ⟨l, ⟨some a, cap, by rw [hlen], by omega, ⟨rfl, by omega, fun _ => ⟨a, rfl, fun j y hy => (hp j y hy).1⟩⟩⟩, by omega, fun y hy => ?_⟩
   obtain ⟨i, hi⟩ := List.mem_iff_getElem?.1 hy
   exact (hp i y hi).2⟩
def OpensL (P : Program) (w : World) (fs : List Field) (off : Nat) {α : Type} (d : Kd α) (wf : α → Prop) : Prop :=
 ∀ (H : Type) (enc : TypeId × Value → H) (base : Nat) (sp : Nat → Bool) (held : Bool) (fuel : Nat) (cs : List Value),
  (∀ f ∈ fs, ∃ x, DataW.trod enc P w base sp held fuel f.type ((cs.drop f.offset).take (P.cellsOf f.type)) = some x) → cs.length = off + d.sz → ∃ a, d.K w (a : α) (cs.drop off) ∧ wf a
theorem OpensL.cons {f : Field} {fs : List Field} {off : Nat} {α β : Type} {d : Kd α} {e : Kd β} {wf : α → Prop} {wf' : β → Prop} (o : Opens P w f.type d wf) (ho : f.offset = off) (r : OpensL P w fs (off + d.sz) e wf') :
  OpensL P w (f :: fs) off (Kd.pair d e) (fun p => wf p.1 ∧ wf' p.2) := by
 intro H enc base sp held fuel cs h hl
 have hs : (Kd.pair d e).sz = d.sz + e.sz := rfl
 obtain ⟨x, hx⟩ := h f (List.mem_cons_self ..)
 obtain ⟨b, hb, hwb⟩ := r H enc base sp held fuel cs (fun g hg => h g (List.mem_cons_of_mem _ hg)) (by omega)
 rw [o.1, ho] at hx
 obtain ⟨a, ha, hwa⟩ := o.2 _ _ _ _ _ _ _ _ hx
 refine ⟨(a, b), ⟨(cs.drop off).take d.sz, cs.drop (off + d.sz), ?_, ?_, ?_⟩, hwa, hwb⟩
 all_goals first
  | exact ha
  | exact hb
  | (rw [← List.drop_drop, List.take_append_drop])
theorem Opens.struct {t : TypeId} {fs : Array Field} {α β : Type} {d : Kd α} {wf : α → Prop} {f : β → α} (g : α → β) (hg : ∀ a, f (g a) = a) (ht : P.underlying t = some (.struct fs)) (hc : P.cellsOf t = d.sz) (o : OpensL P w fs.toList 0 d wf) :
  Opens P w t (Kd.iso d f) (fun b => wf (f b)) :=
 ⟨hc, fun H enc base sp held fuel cs x h => by
  obtain ⟨xs, n, _, _, hl, hn, hf⟩ := DataW.trod_struct ht h
  obtain ⟨a, ha, hw⟩ := o H enc base sp held n cs (fun f hm => by
   obtain ⟨i, hi⟩ := List.mem_iff_getElem?.1 hm
   have hi' : fs[i]? = some f := by rw [← hi, Array.getElem?_toList]
   have := hf i f hi'
   have hlt : i < xs.length := by
    rcases Nat.lt_or_ge i fs.size with h | h
    ·omega
    ·rw [Array.getElem?_eq_none h] at hi'; cases hi'
   rw [List.getElem?_eq_getElem hlt] at this
   exact ⟨_, this⟩) (by rw [hl, hc]; omega)
  have e : f (g a) = a := hg a
  exact ⟨g a, by show d.K w (f (g a)) cs; rw [e]; exact ha, by show wf (f (g a)); rw [e]; exact hw⟩⟩
theorem laid_mem {laid : List (String × DataW Unit)} {n : String} {d : DataW Unit} (hm : (n, d) ∈ laid) : ∀ {ps : List MemPlace}, DataW.LaidVars P w laid ps →
  ∃ g t cs fuel p, P.globalNamed n = some g ∧ (P.globals[g]?).map (·.type) = some t ∧ w.var? P n = some cs ∧ DataW.trod (fun _ => ()) P w 0 (fun _ => true) false fuel t cs.toList = some (d, p) := by
 induction laid with
 | nil => cases hm
 | cons a l ih =>
  obtain ⟨m, e⟩ := a
  rintro ps ⟨g, t, cs, fuel, p, q, h1, h2, h3, h4, h5, _⟩
  rcases List.mem_cons.1 hm with h | h
  ·cases h
   exact ⟨g, t, cs, fuel, p, h1, h2, h3, h4⟩
  ·exact ih h h5
theorem tab_laid {laid : List (String × DataW Unit)} {name : String} {k : IntKind} {zs : List Int} (hm : (name, Lib.tabData k zs) ∈ laid) {g : Nat} {t e : TypeId} {n : Nat}
  (hg : P.globalNamed name = some g) (hty : (P.globals[g]?).map (·.type) = some t) (ht : P.underlying t = some (.array n e)) (he : P.underlying e = some (.int k)) (hce : P.cellsOf e = 1) (hct : P.cellsOf t = n)
  (h : laidMetH P laid w) (hp : (laid.all fun x => x.2.handleName?.isNone) = true) : Lib.TabIs P w name k zs := by
 rw [MakeChecks.laidMetH_plain _ _ _ hp] at h
 obtain ⟨ps, hv, _⟩ := h
 obtain ⟨g', t', cs, fuel, p, hg', ht', hvar, hd⟩ := laid_mem hm hv
 obtain rfl := Option.some.inj (hg.symm.trans hg')
 obtain rfl := Option.some.inj (hty.symm.trans ht')
 unfold Lib.TabIs
 rw [hvar, ← Lib.cells_of_tab ht he hce hct hd]
theorem iface_laid {laid : List (String × DataW Unit)} {name tn : String} {dd : DataW Unit} (hm : (name, DataW.iface tn dd) ∈ laid) {g : Nat} {t : TypeId} {ms : Array (String × TypeId)}
  (hg : P.globalNamed name = some g) (hty : (P.globals[g]?).map (·.type) = some t) (ht : P.underlying t = some (.interface ms))
  (h : laidMetH P laid w) (hp : (laid.all fun x => x.2.handleName?.isNone) = true) : ∃ tp p, w.var? P name = some #[.iface tp p] := by
 rw [MakeChecks.laidMetH_plain _ _ _ hp] at h
 obtain ⟨ps, hv, _⟩ := h
 obtain ⟨g', t', cs, fuel, p, hg', ht', hvar, hd⟩ := laid_mem hm hv
 obtain rfl := Option.some.inj (hg.symm.trans hg')
 obtain rfl := Option.some.inj (hty.symm.trans ht')
 obtain ⟨l⟩ := cs
 cases fuel with
 | zero => simp [DataW.trod] at hd
 | succ n =>
  unfold DataW.trod at hd
  rw [ht] at hd
  split at hd <;> simp_all
end
theorem handed_shaped {H : Type} {enc : TypeId × Value → H} {a : Assume} {C : Checked} {os : Os} {f : FuncId} {fn : Func} {s : ChangeSpec} {conds : List PathCond} {apart fresh handsOn again : Bool} {X : World → Array Value → Prop}
  (hX : ∀ (w w' : World) (args : Array Value), w.heap = w'.heap → X w args → X w' args)
  (own : ownKnob C.prog.godebug = none) (started : os.Started) (noInit : C.prog.inits.idxOf? f = none) (hfn : C.prog.funcs[f]? = some fn)
  (witness : ∃ (w : World) (tape : Tape) (i : Input), w.os = os ∧ (w.forCall tape i).Shaped C.prog ∧ i.vars = [] ∧ Input.okWide C.prog (w.forCall tape i) .any w.heap.size f i ∧
   ((s.pre enc C.prog fn conds apart (w.forCall tape i).memory i.args ∧ X (w.forCall tape i).memory i.args) ∧ sizedMet enc C.prog fn (OpenSpec.ofChange s) apart (w.forCall tape i).memory i.args) ∧ a.holds C.prog (lone (Frame.enter C.prog f i.args .normal) [] (w.forCall tape i)))
  (contract : ∀ (W : World) (base : Nat) (args : Array Value) (ds gs : List (DataW H)) (before : List MemPlace),
   (∀ (j : Nat) t v, fn.params[j]? = some t → args[j]? = some v → Value.okWide C.prog W .any base t v) →
   DataW.Whole enc C.prog fn.params.toList s.vars apart W args.toList ds gs before →
   conds.all (PathCond.test C.prog ⟨fn.params.toList, ds, s.plain.varTypes C.prog, gs⟩) = true →
   (DataW.weightsEach C.prog (fn.params.toList ++ s.plain.varTypes C.prog) (ds ++ gs)).all (· ≤ reachBytes) = true → X W args → W.ShapedOpen C.prog →
   a.holds C.prog (lone (Frame.enter C.prog f args .normal) [] W) →
   Calls C.prog f args W fun e W' => ∃ v, e = .returned v ∧ s.post enc C.prog fn apart fresh handsOn again W args v W') :
  ReturnsInHanded a C os f .any (fun w args => (s.pre enc C.prog fn conds apart w args ∧ X w args) ∧ sizedMet enc C.prog fn (OpenSpec.ofChange s) apart w args) (s.post enc C.prog fn apart fresh handsOn again) := by
 refine returnsInHanded_of_calls own started noInit witness ?_
 intro w tape i _ hsh _ hok hpre hholds
 obtain ⟨_, _, _, fn', hfn', _, _, _, _, hval⟩ := hok
 have e : fn' = fn := Option.some.inj (hfn'.symm.trans hfn)
 subst e
 obtain ⟨⟨⟨ds, gs, before, hw, hc⟩, hx⟩, hz⟩ := hpre
 have hw' := DataW.Whole.of_heap (w' := w.forCall tape i) (by rfl) hw
 refine (contract (w.forCall tape i) w.heap.size i.args ds gs before hval hw' hc (hz.weights hw) (hX _ _ _ (by rfl) hx) hsh hholds).mono fun e W' ⟨v, he, hp⟩ => ?_
 subst he
 exact ChangeSpec.post_blind hp
end Go.Proofs.YtgklofginkafgaaGreatDoorY
end
section
namespace Go.Proofs.YtgklofginkafgaaGreatDoor.Pu
set_option linter.unusedSimpArgs false
set_option linter.unusedVariables false
open Go.RowKit Go.Proofs.YtgklofginkafgaaGreatDoorW.PrintWords
theorem wr {x : Int} (h0 : -9223372036854775808 ≤ x) (h1 : x ≤ 9223372036854775807) : wrap64 x = x := by
 unfold wrap64
 omega
theorem Ev_succ {α : Type} {g : Nat → Option α} {r : α} (h : Ev (fun k => g (k + 1)) r) : Ev g r := Ev.step (fun _ => rfl) h
theorem Go_Ev_cast {α : Type} {g : Nat → Option α} {r r' : α} (h : Ev g r) (e : r = r') : Ev g r' := e ▸ h
theorem bytes_ext {a b : ByteArray} (h : a.data.toList = b.data.toList) : a = b := by
 cases a
 cases b
 simp only [ByteArray.mk.injEq]
 exact Array.toList_inj.1 h
theorem size_mk (l : List UInt8) : (⟨l.toArray⟩ : ByteArray).size = l.length := by simp [ByteArray.size]
theorem app_mk (a b : List UInt8) : (⟨a.toArray⟩ : ByteArray) ++ ⟨b.toArray⟩ = ⟨(a ++ b).toArray⟩ := by
 apply bytes_ext
 simp
theorem toList_data (s : ByteArray) : s.toList = s.data.toList := ByteArray.toList_eq s
end Go.Proofs.YtgklofginkafgaaGreatDoor.Pu
end
section
namespace Go.Proofs.YtgklofginkafgaaGreatDoor.Pu
set_option linter.unusedSimpArgs false
set_option linter.unusedVariables false
open Go.RowKit Go.Proofs.YtgklofginkafgaaGreatDoorW.PrintWords Go.Proofs.YtgklofginkafgaaGreatDoor.PS
theorem decDigits_lt (j : Nat) : ∀ u, u < 10 ^ (j + 1) → (Lib.decDigits u).length ≤ j + 1 := by
 induction j with
 | zero =>
  intro u hu
  rw [Lib.decDigits, dif_pos (by simpa using hu)]
  simp
 | succ j ih =>
  intro u hu
  rw [Lib.decDigits]
  by_cases h : u < 10
  ·rw [dif_pos h]
   simp
  ·rw [dif_neg h, List.length_append]
   have := ih (u / 10) (by rw [Nat.pow_succ] at hu; omega)
   simp only [List.length_singleton]
   omega
theorem itoa_length (n : Int) (h1 : -9223372036854775808 ≤ n) (h2 : n ≤ 9223372036854775807) : (Lib.itoa n).length ≤ 20 := by
 unfold Lib.itoa
 by_cases hn : n < 0
 ·rw [if_pos hn, List.length_cons]
  have := decDigits_lt 18 n.natAbs (by omega)
  omega
 ·rw [if_neg hn]
  have := decDigits_lt 18 n.toNat (by omega)
  omega
theorem Decimal_eq (n : Int) (h1 : -9223372036854775808 ≤ n) (h2 : n ≤ 9223372036854775807) : impl_Decimal.f n = some ⟨(Lib.itoa n).toArray⟩ := by
 unfold impl_Decimal.f
 rw [if_pos ⟨h1, h2⟩]
end Go.Proofs.YtgklofginkafgaaGreatDoor.Pu
end
section
namespace Go.Proofs.YtgklofginkafgaaGreatDoor.Pu
set_option linter.unusedSimpArgs false
set_option linter.unusedVariables false
open Go.RowKit Go.Proofs.YtgklofginkafgaaGreatDoorW.PrintWords Go.Proofs.YtgklofginkafgaaGreatDoor.PS
def isD (c : UInt8) : Bool := decide (48 ≤ c.toNat ∧ c.toNat ≤ 57)
theorem ofNat_digit (n : Nat) (h : n < 10) : (UInt8.ofNat (48 + n)).toNat = 48 + n := by
 rw [UInt8.toNat_ofNat']
 omega
theorem dec_digits (u : Nat) : ∀ c ∈ Lib.decDigits u, 48 ≤ c.toNat ∧ c.toNat ≤ 57 := by
 induction u using Nat.strongRecOn with
 | _ u ih =>
  intro c hc
  rw [Lib.decDigits] at hc
  by_cases h : u < 10
  ·rw [dif_pos h] at hc
   rw [List.mem_singleton.1 hc, ofNat_digit u h]
   omega
  ·rw [dif_neg h] at hc
   rcases List.mem_append.1 hc with hc | hc
   ·exact ih (u / 10) (by omega) c hc
   ·rw [List.mem_singleton.1 hc, ofNat_digit (u % 10) (by omega)]
    omega
theorem dec_ne (u : Nat) : Lib.decDigits u ≠ [] := by
 rw [Lib.decDigits]
 by_cases h : u < 10
 ·rw [dif_pos h]
  simp
 ·rw [dif_neg h]
  simp
theorem parseM_dec (M : Nat) (hM : 1000000000000000000 ≤ M) (u : Nat) : u < 1000000000000000000 → ∀ r, Lib.parseUintM M 0 (Lib.decDigits u ++ r) = Lib.parseUintM M u r := by
 induction u using Nat.strongRecOn with
 | _ u ih =>
  intro hu r
  rw [Lib.decDigits]
  by_cases h : u < 10
  ·rw [dif_pos h, List.singleton_append, Lib.parseUintM, ofNat_digit u h, if_pos (by omega), if_neg (by omega), if_neg (by omega)]
   congr 1
   omega
  ·rw [dif_neg h, List.append_assoc, List.singleton_append, ih (u / 10) (by omega) (by omega), Lib.parseUintM, ofNat_digit (u % 10) (by omega), if_pos (by omega), if_neg (by omega), if_neg (by omega)]
   congr 1
   omega
theorem parseIntB_dec (u : Nat) (hu : u < 1000000000000000000) : Lib.parseIntB 64 (Lib.decDigits u) = .ok (u : Int) := by
 have h := parseM_dec (2 ^ 64 - 1) (by decide) u hu []
 rw [List.append_nil] at h
 have hd := dec_digits u
 have hn := dec_ne u
 generalize Lib.decDigits u = l at h hd hn
 cases l with
 | nil => exact absurd rfl hn
 | cons c r =>
  have hc := hd c (by simp)
  have h1 : ¬ (c.toNat = 43 ∨ c.toNat = 45) := by omega
  have h2 : ¬ (c.toNat = 45) := by omega
  have e : Lib.parseUintB 64 (c :: r) = .ok u := by
   unfold Lib.parseUintB
   rw [if_neg hn, h]
   rfl
  unfold Lib.parseIntB
  simp only
  rw [if_neg h1, e]
  simp only [h2, not_false_eq_true, true_and, false_and, if_false]
  rw [if_neg (by simp only [Nat.reduceSub, Nat.reducePow]; omega)]
def stepD (a : Nat) (c : UInt8) : Nat := 10 * a + (c.toNat - 48)
def valD (acc : Nat) (l : List UInt8) : Nat := l.foldl stepD acc
theorem valD_nil (acc : Nat) : valD acc [] = acc := List.foldl_nil
theorem valD_cons (acc : Nat) (c : UInt8) (r : List UInt8) : valD acc (c :: r) = valD (10 * acc + (c.toNat - 48)) r := List.foldl_cons ..
theorem valD_append (x y : List UInt8) (acc : Nat) : valD acc (x ++ y) = valD (valD acc x) y := List.foldl_append ..
theorem valD_dec (u : Nat) : valD 0 (Lib.decDigits u) = u := by
 induction u using Nat.strongRecOn with
 | _ u ih =>
  rw [Lib.decDigits]
  by_cases h : u < 10
  ·rw [dif_pos h]
   simp only [valD_cons, valD_nil, ofNat_digit u h]
   omega
  ·rw [dif_neg h, valD_append, ih (u / 10) (by omega)]
   simp only [valD_cons, valD_nil, ofNat_digit (u % 10) (by omega)]
   omega
theorem digit_back (c : UInt8) (h : 48 ≤ c.toNat) : UInt8.ofNat (48 + (c.toNat - 48)) = c := by
 rw [show 48 + (c.toNat - 48) = c.toNat by omega]
 exact UInt8.ofNat_toNat
theorem dec_valD (n : Nat) : ∀ l : List UInt8, l.length = n → (∀ c ∈ l, 48 ≤ c.toNat ∧ c.toNat ≤ 57) → l ≠ [] → l.head? ≠ some 48 → Lib.decDigits (valD 0 l) = l ∧ 1 ≤ valD 0 l := by
 induction n with
 | zero => intro l hl _ hn; exact absurd (List.eq_nil_of_length_eq_zero hl) hn
 | succ n ih =>
  intro l hl hd hn hh
  have e := (List.dropLast_concat_getLast hn).symm
  generalize hi : l.dropLast = init at e
  generalize l.getLast hn = c at e
  subst e
  have hc := hd c (by simp)
  cases init with
  | nil =>
   simp only [List.nil_append, List.head?_cons, ne_eq, Option.some.injEq] at hh
   have h1 : c.toNat ≠ 48 := fun e => hh (by rw [← UInt8.toNat_inj]; exact e)
   simp only [List.nil_append, valD_cons, valD_nil]
   refine ⟨?_, by omega⟩
   rw [Lib.decDigits, dif_pos (by omega), Nat.mul_zero, Nat.zero_add, digit_back c hc.1]
  | cons a t =>
   obtain ⟨h1, h2⟩ := ih (a :: t) (by simpa using hl) (fun x hx => hd x (by simp only [List.mem_append]; exact .inl hx)) (by simp) (by simpa using hh)
   rw [valD_append]
   simp only [valD_cons, valD_nil]
   refine ⟨?_, by simp only [valD_cons, valD_nil] at h2; omega⟩
   simp only [valD_cons, valD_nil] at h1 h2
   rw [Lib.decDigits, dif_neg (by omega)]
   rw [show (10 * valD (10 * 0 + (a.toNat - 48)) t + (c.toNat - 48)) / 10 = valD (10 * 0 + (a.toNat - 48)) t by omega, show (10 * valD (10 * 0 + (a.toNat - 48)) t + (c.toNat - 48)) % 10 = c.toNat - 48 by omega, h1, digit_back c hc.1]
theorem dec_head (u : Nat) : 1 ≤ u → (Lib.decDigits u).head? ≠ some 48 := by
 induction u using Nat.strongRecOn with
 | _ u ih =>
  intro hu
  rw [Lib.decDigits]
  by_cases h : u < 10
  ·rw [dif_pos h]
   simp only [List.head?_cons, ne_eq, Option.some.injEq]
   intro e
   have := congrArg UInt8.toNat e
   rw [ofNat_digit u h] at this
   have h48 : (48 : UInt8).toNat = 48 := rfl
   omega
  ·rw [dif_neg h]
   have h1 := ih (u / 10) (by omega) (by omega)
   have h2 := dec_ne (u / 10)
   cases hl : Lib.decDigits (u / 10) with
   | nil => exact absurd hl h2
   | cons a t =>
    rw [hl] at h1
    simpa using h1
theorem itoa_nat (n : Int) (h : 0 ≤ n) : Lib.itoa n = Lib.decDigits n.toNat := by
 unfold Lib.itoa
 rw [if_neg (by omega)]
def numR : List UInt8 → Int × Bool
 | [] => (0, false)
 | c :: r =>
  if c.toNat = 45 then (if r = [] ∨ 18 < r.length ∨ r.head? = some 48 then (0, false) else if r.all isD = true then (-(valD 0 r : Int), true) else (0, false))
  else (if 18 < r.length + 1 ∨ (c = 48 ∧ r ≠ []) then (0, false) else if (c :: r).all isD = true then ((valD 0 (c :: r) : Int), true) else (0, false))
theorem all_isD {l : List UInt8} (h : l.all isD = true) : ∀ c ∈ l, 48 ≤ c.toNat ∧ c.toNat ≤ 57 := fun c hc => of_decide_eq_true (List.all_eq_true.1 h c hc)
theorem isD_all {l : List UInt8} (h : ∀ c ∈ l, 48 ≤ c.toNat ∧ c.toNat ≤ 57) : l.all isD = true := List.all_eq_true.2 fun c hc => decide_eq_true (h c hc)
theorem numR_true (l : List UInt8) (n : Int) (h : numR l = (n, true)) (h0 : 0 ≤ n) : l = Lib.itoa n := by
 cases l with
 | nil => simp [numR] at h
 | cons c r =>
  simp only [numR] at h
  by_cases hc : c.toNat = 45
  ·rw [if_pos hc] at h
   split at h
   ·simp at h
   ·rename_i hn
    split at h
    ·rename_i ha
     injection h with h1 _
     have h2 := (dec_valD r.length r rfl (all_isD ha) (fun e => hn (.inl e)) (fun e => hn (.inr (.inr e)))).2
     omega
    ·simp at h
  ·rw [if_neg hc] at h
   split at h
   ·simp at h
   ·rename_i hn
    split at h
    ·rename_i ha
     injection h with h1 _
     rw [← h1, itoa_nat _ (by omega), Int.toNat_natCast]
     by_cases h48 : c = 48
     ·have hr : r = [] := Classical.byContradiction fun e => hn (.inr ⟨h48, e⟩)
      subst hr
      subst h48
      simp only [valD_cons, valD_nil]
      rw [Lib.decDigits, dif_pos (by decide)]
      rfl
     ·exact (dec_valD (c :: r).length (c :: r) rfl (all_isD ha) (by simp) (by simpa using h48)).1.symm
    ·simp at h
theorem numR_itoa (n : Int) (h0 : 0 ≤ n) (h1 : n ≤ 100000000) : numR (Lib.itoa n) = (n, true) := by
 have hv := valD_dec n.toNat
 have hd := dec_digits n.toNat
 have hn := dec_ne n.toNat
 have hl := decDigits_lt 9 n.toNat (by omega)
 have hh : Lib.decDigits n.toNat = [48] ∨ (Lib.decDigits n.toNat).head? ≠ some 48 := by
  by_cases hz : n.toNat = 0
  ·left
   rw [hz, Lib.decDigits, dif_pos (by decide)]
   rfl
  ·exact .inr (dec_head _ (by omega))
 rw [itoa_nat n h0]
 generalize Lib.decDigits n.toNat = l at hv hd hn hl hh
 cases l with
 | nil => exact absurd rfl hn
 | cons c r =>
  have hc := hd c (by simp)
  simp only [numR]
  rw [if_neg (by omega), if_neg, if_pos (isD_all hd), hv, Int.toNat_of_nonneg h0]
  rintro (h | ⟨h, h2⟩)
  ·simp only [List.length_cons] at hl
   omega
  ·rcases hh with e | e
   ·injection e with _ e2
    exact h2 e2
   ·exact e (by rw [h]; rfl)
end Go.Proofs.YtgklofginkafgaaGreatDoor.Pu
end
section
namespace Go.Proofs.YtgklofginkafgaaGreatDoor.Pu
set_option linter.unusedSimpArgs false
set_option linter.unusedVariables false
open Go.RowKit Go.Proofs.YtgklofginkafgaaGreatDoorW.PrintWords Go.Proofs.YtgklofginkafgaaGreatDoor.PS
def headOn {α : Type} (p : List α) : List (List α) → List (List α)
 | [] => [p]
 | x :: xs => (p ++ x) :: xs
def splitB (b : UInt8) : List UInt8 → List (List UInt8)
 | [] => [[]]
 | c :: r => if c = b then [] :: splitB b r else headOn [c] (splitB b r)
theorem splitB_ne (b : UInt8) (l : List UInt8) : splitB b l ≠ [] := by
 cases l with
 | nil => simp [splitB]
 | cons c r =>
  unfold splitB
  split
  ·simp
  ·unfold headOn
   split <;> simp
theorem headOn_headOn {α : Type} (p q : List α) (L : List (List α)) : headOn p (headOn q L) = headOn (p ++ q) L := by
 cases L <;> simp [headOn]
theorem headOn_nil {α : Type} {L : List (List α)} (h : L ≠ []) : headOn [] L = L := by
 cases L with
 | nil => exact absurd rfl h
 | cons x xs => simp [headOn]
theorem splitB_not (b : UInt8) (x : List UInt8) (h : b ∉ x) (r : List UInt8) : splitB b (x ++ r) = headOn x (splitB b r) := by
 induction x with
 | nil => rw [List.nil_append, headOn_nil (splitB_ne b r)]
 | cons c x ih =>
  have h1 : ¬ (c = b) := fun e => h (by rw [e]; simp)
  have h2 := ih (fun e => h (by simp [e]))
  rw [List.cons_append, splitB, if_neg h1, h2, headOn_headOn]
  rfl
theorem splitB_two (b : UInt8) (x y : List UInt8) (hx : b ∉ x) (hy : b ∉ y) : splitB b (x ++ b :: y) = [x, y] := by
 have h1 := splitB_not b y hy []
 rw [List.append_nil] at h1
 rw [splitB_not b x hx, splitB, if_pos rfl, h1]
 simp [headOn, splitB]
theorem splitB_one (b : UInt8) (l p : List UInt8) (h : splitB b l = [p]) : l = p ∧ b ∉ p := by
 induction l generalizing p with
 | nil =>
  simp only [splitB, List.cons.injEq, and_true] at h
  subst h
  exact ⟨rfl, by simp⟩
 | cons c r ih =>
  unfold splitB at h
  by_cases hc : c = b
  ·rw [if_pos hc] at h
   injection h with h1 h2
   exact absurd h2 (splitB_ne b r)
  ·rw [if_neg hc] at h
   cases hs : splitB b r with
   | nil => exact absurd hs (splitB_ne b r)
   | cons q qs =>
    rw [hs] at h
    simp only [headOn, List.cons.injEq] at h
    obtain ⟨h1, h2⟩ := h
    subst h2
    obtain ⟨e1, e2⟩ := ih q hs
    subst h1
    subst e1
    refine ⟨rfl, ?_⟩
    simp only [List.singleton_append, List.mem_cons, not_or]
    exact ⟨fun e => hc e.symm, e2⟩
theorem splitB_pair (b : UInt8) (l x y : List UInt8) (h : splitB b l = [x, y]) : l = x ++ b :: y ∧ b ∉ x ∧ b ∉ y := by
 induction l generalizing x with
 | nil => simp [splitB] at h
 | cons c r ih =>
  unfold splitB at h
  by_cases hc : c = b
  ·rw [if_pos hc] at h
   injection h with h1 h2
   obtain ⟨e1, e2⟩ := splitB_one b r y h2
   subst h1
   subst e1
   exact ⟨by rw [hc]; rfl, by simp, e2⟩
  ·rw [if_neg hc] at h
   cases hs : splitB b r with
   | nil => exact absurd hs (splitB_ne b r)
   | cons q qs =>
    rw [hs] at h
    simp only [headOn, List.cons.injEq] at h
    obtain ⟨h1, h2⟩ := h
    subst h2
    obtain ⟨e1, e2, e3⟩ := ih q hs
    subst h1
    subst e1
    refine ⟨rfl, ?_, e3⟩
    simp only [List.singleton_append, List.mem_cons, not_or]
    exact ⟨fun e => hc e.symm, e2⟩
theorem cut_byte (b : UInt8) (x y : List UInt8) (h : b ∉ x) : Lib.cut (x ++ b :: y) [b] = (x, y, true) := by
 have hi : Lib.index (x ++ b :: y) [b] = (x.length : Int) := by
  apply Lib.index_first
  ·simp
  ·simp [Lib.occAt, List.isPrefixOf]
  ·intro j hj
   unfold Lib.occAt
   rw [List.drop_append_of_le_length (by omega), List.drop_eq_getElem_cons hj]
   have hne : ¬ (b = x[j]) := fun e => h (e ▸ List.getElem_mem hj)
   show ((b == x[j]) && _) = false
   rw [beq_eq_false_iff_ne.2 hne]
   rfl
 unfold Lib.cut
 rw [hi, if_pos (by omega)]
 simp
end Go.Proofs.YtgklofginkafgaaGreatDoor.Pu
end
section
namespace Go.Proofs.YtgklofginkafgaaGreatDoor.Pu
set_option linter.unusedSimpArgs false
set_option linter.unusedVariables false
open Go.RowKit Go.Proofs.YtgklofginkafgaaGreatDoorW.PrintWords Go.Proofs.YtgklofginkafgaaGreatDoor.PS
theorem l00In_eq (a b c : Int) : spec_l00In.f a b c = some (decide (b ≤ a ∧ a ≤ c)) := by
 unfold spec_l00In.f
 by_cases h : a ≥ b
 ·rw [if_pos h]
  simp only [ge_iff_le] at h
  simp [h]
 ·rw [if_neg h]
  simp only [ge_iff_le] at h
  simp [h]
theorem within_eq (a b c : Int) : impl_within.f a b c = some (decide (b ≤ a ∧ a ≤ c)) := by
 unfold impl_within.f
 by_cases h : a ≥ b
 ·rw [if_pos h]
  simp only [ge_iff_le] at h
  simp [h]
 ·rw [if_neg h]
  simp only [ge_iff_le] at h
  simp [h]
end Go.Proofs.YtgklofginkafgaaGreatDoor.Pu
end
section
namespace Go.Proofs.YtgklofginkafgaaGreatDoor.Pu
set_option linter.unusedSimpArgs false
set_option linter.unusedVariables false
open Go.RowKit Go.Proofs.YtgklofginkafgaaGreatDoorW.PrintWords Go.Proofs.YtgklofginkafgaaGreatDoor.PS
theorem digit_eq (c : Int) : spec_l01Digit.f c = some (decide (48 ≤ c ∧ c ≤ 57)) := by
 unfold spec_l01Digit.f
 by_cases h : c ≥ 48
 ·rw [if_pos h]
  simp only [ge_iff_le] at h
  simp [h]
 ·rw [if_neg h]
  simp only [ge_iff_le] at h
  simp [h]
end Go.Proofs.YtgklofginkafgaaGreatDoor.Pu
end
section
namespace Go.Proofs.YtgklofginkafgaaGreatDoor.Pu
set_option linter.unusedSimpArgs false
set_option linter.unusedVariables false
open Go.RowKit Go.Proofs.YtgklofginkafgaaGreatDoorW.PrintWords Go.Proofs.YtgklofginkafgaaGreatDoor.PS
theorem bt_mk (l : List UInt8) (i : Nat) (h : i < l.length) : bt ⟨l.toArray⟩ (i : Int) = (l[i].toNat : Int) := by
 have hs : ((i : Int)).toNat < (⟨l.toArray⟩ : ByteArray).size := by rw [Int.toNat_natCast, size_mk]; exact h
 rw [← bt_at _ _ hs]
 rfl
theorem extract_mk (l : List UInt8) (a e : Nat) : (⟨l.toArray⟩ : ByteArray).extract a e = ⟨((l.drop a).take (e - a)).toArray⟩ := by
 apply bytes_ext
 simp [List.extract_eq_take_drop]
theorem l01Number_l0 (l : List UInt8) (hl : l.length ≤ 20) (at_ : Int) (d : Nat) : ∀ (i e n : Nat), i + d = l.length → n < 10 ^ e → e + d ≤ 18 →
  Ev (fun k => spec_l01Number.l0 k ⟨l.toArray⟩ at_ (n : Int) (i : Int)) (if (l.drop i).all isD = true then (if at_ = 1 then -(valD n (l.drop i) : Int) else (valD n (l.drop i) : Int), true) else (0, false)) := by
 induction d with
 | zero =>
  intro i e n hi hn he
  have hp := Nat.pow_le_pow_right (show 0 < 10 by decide) (show e ≤ 18 by omega)
  apply Ev_succ
  simp only [spec_l01Number.l0, size_mk, if_neg (show ¬ ((i : Int) < (l.length : Int)) by omega), List.drop_of_length_le (show l.length ≤ i by omega), List.all_nil, if_true, valD_cons, valD_nil]
  by_cases h : at_ = 1
  ·simp only [if_pos h, wr (show -9223372036854775808 ≤ -(n : Int) by omega) (by omega)]
   exact Ev.now _
  ·simp only [if_neg h]
   exact Ev.now _
 | succ d ih =>
  intro i e n hi hn he
  have hlt : i < l.length := by omega
  have hp := Nat.pow_le_pow_right (show 0 < 10 by decide) (show e + 1 ≤ 18 by omega)
  rw [Nat.pow_succ] at hp
  rw [List.drop_eq_getElem_cons hlt]
  apply Ev_succ
  simp only [spec_l01Number.l0, size_mk, if_pos (show (i : Int) < (l.length : Int) by omega), if_pos (show (0 : Int) ≤ (i : Int) by omega), bt_mk l i hlt, digit_eq, Option.bind_some]
  by_cases hd : 48 ≤ l[i].toNat ∧ l[i].toNat ≤ 57
  ·have hd2 : (48 : Int) ≤ (l[i].toNat : Int) ∧ (l[i].toNat : Int) ≤ 57 := by omega
   have h2 := ih (i + 1) (e + 1) (10 * n + (l[i].toNat - 48)) (by omega) (by rw [Nat.pow_succ]; omega) (by omega)
   rw [List.all_cons, show isD l[i] = true from decide_eq_true hd, Bool.true_and]
   simp only [decide_eq_true hd2, if_true, valD_cons, valD_nil]
   rw [wr (show -9223372036854775808 ≤ 10 * (n : Int) by omega) (by omega), show ((l[i].toNat : Int) - 48) % 256 = (l[i].toNat : Int) - 48 by omega, wr (by omega) (by omega), wr (by omega) (by omega)]
   rw [show ((10 * n + (l[i].toNat - 48) : Nat) : Int) = 10 * (n : Int) + ((l[i].toNat : Int) - 48) by omega, show ((i + 1 : Nat) : Int) = (i : Int) + 1 by omega] at h2
   exact h2
  ·have hd2 : ¬ ((48 : Int) ≤ (l[i].toNat : Int) ∧ (l[i].toNat : Int) ≤ 57) := by omega
   rw [List.all_cons, show isD l[i] = false from decide_eq_false hd, Bool.false_and]
   simp only [decide_eq_false hd2, Bool.false_eq_true, if_false]
   exact Ev.now _
theorem l01Number_eq (l : List UInt8) (hl : l.length ≤ 1000000000) : Ev (fun k => spec_l01Number.f k ⟨l.toArray⟩) (numR l) := by
 have j2 : ∀ at_ : Int, Ev (fun k => spec_l01Number.j2 k ⟨l.toArray⟩ at_ true) (0, false) := by
  intro at_
  apply Ev_succ
  simp only [spec_l01Number.j2, if_true]
  exact Ev.now _
 unfold spec_l01Number.f
 cases l with
 | nil =>
  simp only [size_mk, List.length_nil, if_neg (show ¬ ((((0 : Nat)) : Int) > 0) by omega), numR]
  apply Ev_succ
  simp only [spec_l01Number.j0, Bool.false_eq_true, if_false]
  apply Ev_succ
  simp only [spec_l01Number.j1, size_mk, List.length_nil, show (((0 : Nat)) : Int) = 0 from rfl, if_true]
  exact j2 0
 | cons c r =>
  have hlen : (c :: r).length = r.length + 1 := rfl
  have hb0 : bt ⟨(c :: r).toArray⟩ 0 = (c.toNat : Int) := bt_mk (c :: r) 0 (by simp)
  simp only [size_mk, if_pos (show (((c :: r).length : Nat) : Int) > 0 by omega), if_pos (show (0 : Int) < (((c :: r).length : Nat) : Int) by omega), hb0]
  apply Ev_succ
  simp only [numR]
  by_cases hc : c.toNat = 45
  ·simp only [spec_l01Number.j0, show ((c.toNat : Int) == 45) = true by simp; omega, if_true, if_pos hc]
   apply Ev_succ
   simp only [spec_l01Number.j1, size_mk]
   by_cases h1 : r = []
   ·subst h1
    simp only [List.length_singleton, show (((1 : Nat)) : Int) = 1 from rfl, if_true, true_or]
    exact j2 1
   ·have hr : 1 ≤ r.length := List.length_pos_iff.2 h1
    simp only [if_neg (show ¬ ((((c :: r).length : Nat) : Int) = 1) by omega), wr (show -9223372036854775808 ≤ (((c :: r).length : Nat) : Int) - 1 by omega) (by omega), h1, false_or]
    by_cases h2 : 18 < r.length
    ·simp only [if_pos (show (((c :: r).length : Nat) : Int) - 1 > 18 by omega), h2, true_or, if_true]
     exact j2 1
    ·have hb1 : bt ⟨(c :: r).toArray⟩ 1 = (r[0].toNat : Int) := bt_mk (c :: r) 1 (by omega)
     simp only [if_neg (show ¬ ((((c :: r).length : Nat) : Int) - 1 > 18) by omega), h2, false_or, if_pos (show (0 : Int) ≤ 1 by omega), if_pos (show (1 : Int) < (((c :: r).length : Nat) : Int) by omega), hb1]
     have hh : r.head? = some 48 ↔ r[0].toNat = 48 := by
      rw [List.head?_eq_getElem?, List.getElem?_eq_getElem (by omega), Option.some.injEq]
      exact ⟨fun e => by rw [e]; rfl, fun e => by rw [← UInt8.toNat_inj]; exact e⟩
     by_cases h3 : r[0].toNat = 48
     ·simp only [if_pos (show (r[0].toNat : Int) = 48 by omega), if_pos (hh.2 h3), decide_eq_true (show (((c :: r).length : Nat) : Int) > 1 by omega)]
      exact j2 1
     ·simp only [if_neg (show ¬ ((r[0].toNat : Int) = 48) by omega), if_neg (fun e => h3 (hh.1 e))]
      apply Ev_succ
      simp only [spec_l01Number.j2, Bool.false_eq_true, if_false]
      have h := l01Number_l0 (c :: r) (by omega) 1 r.length 1 0 0 (by omega) (by decide) (by omega)
      simp only [List.drop_succ_cons, List.drop_zero, if_true] at h
      exact h
  ·simp only [spec_l01Number.j0, show ((c.toNat : Int) == 45) = false by simp; omega, Bool.false_eq_true, if_false, if_neg hc]
   apply Ev_succ
   simp only [spec_l01Number.j1, size_mk, if_neg (show ¬ ((((c :: r).length : Nat) : Int) = 0) by omega), wr (show -9223372036854775808 ≤ (((c :: r).length : Nat) : Int) - 0 by omega) (by omega)]
   by_cases h2 : 18 < r.length + 1
   ·simp only [if_pos (show (((c :: r).length : Nat) : Int) - 0 > 18 by omega), h2, true_or, if_true]
    exact j2 0
   ·simp only [if_neg (show ¬ ((((c :: r).length : Nat) : Int) - 0 > 18) by omega), h2, false_or, if_pos (show (0 : Int) ≤ 0 by omega), if_pos (show (0 : Int) < (((c :: r).length : Nat) : Int) by omega), hb0]
    have hrun : Ev (fun k => spec_l01Number.j2 k ⟨(c :: r).toArray⟩ 0 false) (if (c :: r).all isD = true then ((valD 0 (c :: r) : Int), true) else (0, false)) := by
     apply Ev_succ
     simp only [spec_l01Number.j2, Bool.false_eq_true, if_false]
     have h := l01Number_l0 (c :: r) (by omega) 0 (c :: r).length 0 0 0 (by omega) (by decide) (by omega)
     simp only [List.drop_zero, show ¬ ((0 : Int) = 1) by omega, if_false] at h
     exact h
    by_cases h3 : c.toNat = 48
    ·have h4 : c = 48 := by rw [← UInt8.toNat_inj]; exact h3
     simp only [if_pos (show (c.toNat : Int) = 48 by omega)]
     by_cases h5 : r = []
     ·have h6 : decide ((((c :: r).length : Nat) : Int) > 1) = false := decide_eq_false (by rw [h5]; simp)
      simp only [h6, if_neg (show ¬ (c = 48 ∧ r ≠ []) from fun e => e.2 h5)]
      exact hrun
     ·have hr : 1 ≤ r.length := List.length_pos_iff.2 h5
      simp only [decide_eq_true (show (((c :: r).length : Nat) : Int) > 1 by omega), if_pos (show c = 48 ∧ r ≠ [] from ⟨h4, h5⟩)]
      exact j2 0
    ·simp only [if_neg (show ¬ ((c.toNat : Int) = 48) by omega), if_neg (show ¬ (c = 48 ∧ r ≠ []) from fun e => h3 (by rw [e.1]; rfl))]
     exact hrun
def mkB (l : List UInt8) : ByteArray := ⟨l.toArray⟩
theorem l01Split_l0 (l : List UInt8) (hl : l.length ≤ 1000000000) (b : UInt8) (d : Nat) : ∀ (i from_ : Nat) (acc : List ByteArray), i + d = l.length → from_ ≤ i → acc.length + d ≤ 1000000000 →
  Ev (fun k => spec_l01Split.l0 k ⟨l.toArray⟩ (b.toNat : Int) acc (from_ : Int) (i : Int)) (acc ++ (headOn ((l.drop from_).take (i - from_)) (splitB b (l.drop i))).map mkB) := by
 induction d with
 | zero =>
  intro i from_ acc hi hf ha
  apply Ev_succ
  simp only [spec_l01Split.l0, size_mk, if_neg (show ¬ ((i : Int) < (l.length : Int)) by omega), if_pos (show (0 : Int) ≤ (from_ : Int) by omega), if_pos (show (from_ : Int) ≤ (l.length : Int) by omega), if_pos (show acc.length < 8796093022208 by omega), extract_mk, Int.toNat_natCast]
  rw [show l.length = i by omega, List.drop_of_length_le (show l.length ≤ i by omega)]
  simp only [splitB, headOn, List.append_nil, List.map_cons, List.map_nil, mkB]
  exact Ev.now _
 | succ d ih =>
  intro i from_ acc hi hf ha
  have hlt : i < l.length := by omega
  rw [List.drop_eq_getElem_cons hlt]
  apply Ev_succ
  simp only [spec_l01Split.l0, size_mk, if_pos (show (i : Int) < (l.length : Int) by omega), if_pos (show (0 : Int) ≤ (i : Int) by omega), bt_mk l i hlt, wr (show -9223372036854775808 ≤ (i : Int) + 1 by omega) (by omega)]
  by_cases hc : l[i] = b
  ·simp only [if_pos (show (l[i].toNat : Int) = (b.toNat : Int) by rw [hc]), if_pos (show (0 : Int) ≤ (from_ : Int) by omega), if_pos (show (from_ : Int) ≤ (i : Int) by omega), if_pos (show (i : Int) ≤ (l.length : Int) by omega), if_pos (show acc.length < 8796093022208 by omega), extract_mk, Int.toNat_natCast]
   have h2 := ih (i + 1) (i + 1) (acc ++ [(⟨((l.drop from_).take (i - from_)).toArray⟩ : ByteArray)]) (by omega) (by omega) (by rw [List.length_append, List.length_singleton]; omega)
   rw [Nat.sub_self, List.take_zero, headOn_nil (splitB_ne b _), show ((i + 1 : Nat) : Int) = (i : Int) + 1 by omega, List.append_assoc] at h2
   rw [splitB, if_pos hc]
   simp only [headOn, List.append_nil, List.map_cons]
   exact h2
  ·simp only [if_neg (show ¬ ((l[i].toNat : Int) = (b.toNat : Int)) from fun e => hc (by rw [← UInt8.toNat_inj]; omega))]
   have h2 := ih (i + 1) from_ acc (by omega) (by omega) (by omega)
   rw [show ((i + 1 : Nat) : Int) = (i : Int) + 1 by omega] at h2
   rw [splitB, if_neg hc, headOn_headOn]
   have e : (l.drop from_).take (i + 1 - from_) = (l.drop from_).take (i - from_) ++ [l[i]] := by
    rw [show i + 1 - from_ = (i - from_) + 1 by omega, List.take_succ_eq_append_getElem (by rw [List.length_drop]; omega), List.getElem_drop]
    congr 3
    omega
   rwa [e] at h2
theorem l01Split_eq (l : List UInt8) (hl : l.length ≤ 1000000000) (b : UInt8) : Ev (fun k => spec_l01Split.f k ⟨l.toArray⟩ (b.toNat : Int)) ((splitB b l).map mkB) := by
 have h := l01Split_l0 l hl b l.length 0 0 [] (by omega) (by omega) (by simp; omega)
 rw [List.nil_append, Nat.sub_self, List.take_zero, List.drop_zero, headOn_nil (splitB_ne b l)] at h
 exact h
theorem cut_len (s sep : List UInt8) : (Lib.cut s sep).1.length ≤ s.length ∧ (Lib.cut s sep).2.1.length ≤ s.length := by
 unfold Lib.cut
 split
 ·simp only [List.length_take, List.length_drop]
  omega
 ·simp
end Go.Proofs.YtgklofginkafgaaGreatDoor.Pu
end
section
namespace Go.Proofs.YtgklofginkafgaaGreatDoor.Pu
set_option linter.unusedSimpArgs false
set_option linter.unusedVariables false
open Go.RowKit Go.Proofs.YtgklofginkafgaaGreatDoorW.PrintWords Go.Proofs.YtgklofginkafgaaGreatDoor.PS
theorem mk_toList (l : List UInt8) : (⟨l.toArray⟩ : ByteArray).toList = l := by
 rw [toList_data]
theorem readDec_itoa (n : Int) (h0 : 0 ≤ n) (h1 : n ≤ 10000) : readDecB ⟨(Lib.itoa n).toArray⟩ = (n, true) := by
 have e : (⟨(Lib.itoa n).toArray⟩ : ByteArray).data.toList = Lib.itoa n := by simp
 have hl := decDigits_lt 9 n.toNat (by omega)
 unfold readDecB
 rw [e]
 have hp := parseIntB_dec n.toNat (by omega)
 rw [itoa_nat n h0] at *
 rw [hp]
 have ht : (Lib.trimPrefix (Lib.decDigits n.toNat) [45]).length ≤ 18 := by
  unfold Lib.trimPrefix
  split
  ·rw [List.length_drop]; omega
  ·omega
 simp only
 rw [if_neg (by omega), Int.toNat_of_nonneg h0, itoa_nat n h0, if_pos rfl]
theorem readDec_nil : (readDecB ⟨#[]⟩).2 = false := by
 unfold readDecB
 rw [show Lib.parseIntB 64 (⟨#[]⟩ : ByteArray).data.toList = Lib.NumEnd.syntax from rfl]
theorem ReadDecimal_eq (l : List UInt8) (h : l.length ≤ 1000000000) : impl_ReadDecimal.f ⟨l.toArray⟩ = some (readDecB ⟨l.toArray⟩) := by
 unfold impl_ReadDecimal.f
 rw [if_pos (by rw [size_mk]; omega)]
end Go.Proofs.YtgklofginkafgaaGreatDoor.Pu
end
section
namespace Go.Proofs.YtgklofginkafgaaGreatDoor.Pu
set_option linter.unusedSimpArgs false
set_option linter.unusedVariables false
open Go.RowKit Go.Proofs.YtgklofginkafgaaGreatDoorW.PrintWords Go.Proofs.YtgklofginkafgaaGreatDoor.PS
theorem cut_none (b : UInt8) (l : List UInt8) (h : b ∉ l) : Lib.cut l [b] = (l, [], false) := by
 have hi : Lib.index l [b] = -1 := by
  apply Lib.index_none
  intro j hj
  unfold Lib.occAt
  by_cases e : j < l.length
  ·rw [List.drop_eq_getElem_cons e]
   have hne : ¬ (b = l[j]) := fun e2 => h (e2 ▸ List.getElem_mem e)
   show ((b == l[j]) && _) = false
   rw [beq_eq_false_iff_ne.2 hne]
   rfl
  ·rw [List.drop_of_length_le (by omega)]
   rfl
 unfold Lib.cut
 rw [hi, if_neg (by omega)]
theorem index_byte (b : UInt8) (x y : List UInt8) (h : b ∉ x) : Lib.index (x ++ b :: y) [b] = (x.length : Int) := by
 apply Lib.index_first
 ·simp
 ·simp [Lib.occAt, List.isPrefixOf]
 ·intro j hj
  unfold Lib.occAt
  rw [List.drop_append_of_le_length (by omega), List.drop_eq_getElem_cons hj]
  have hne : ¬ (b = x[j]) := fun e => h (e ▸ List.getElem_mem hj)
  show ((b == x[j]) && _) = false
  rw [beq_eq_false_iff_ne.2 hne]
  rfl
theorem index_no (b : UInt8) (l : List UInt8) (h : b ∉ l) : Lib.index l [b] = -1 := by
 apply Lib.index_none
 intro j hj
 unfold Lib.occAt
 by_cases e : j < l.length
 ·rw [List.drop_eq_getElem_cons e]
  have hne : ¬ (b = l[j]) := fun e2 => h (e2 ▸ List.getElem_mem e)
  show ((b == l[j]) && _) = false
  rw [beq_eq_false_iff_ne.2 hne]
  rfl
 ·rw [List.drop_of_length_le (by omega)]
  rfl
theorem splitB_self (b : UInt8) (l : List UInt8) (h : b ∉ l) : splitB b l = [l] := by
 have h1 := splitB_not b l h []
 rw [List.append_nil] at h1
 rw [h1]
 simp [splitB, headOn]
theorem splitB_first (b : UInt8) (x y : List UInt8) (h : b ∉ x) : splitB b (x ++ b :: y) = x :: splitB b y := by
 rw [splitB_not b x h, splitB, if_pos rfl]
 simp [headOn]
theorem splitK_all (b : UInt8) (k : Nat) : ∀ l : List UInt8, ((splitB b l).length ≤ k + 1 → Lib.splitK [b] 0 k l = splitB b l) ∧ (k + 1 < (splitB b l).length → (Lib.splitK [b] 0 k l).length = k + 1) := by
 induction k with
 | zero =>
  intro l
  refine ⟨fun h => ?_, fun h => rfl⟩
  by_cases hm : b ∈ l
  ·obtain ⟨x, y, rfl, hx⟩ := List.eq_append_cons_of_mem hm
   rw [splitB_first b x y hx, List.length_cons] at h
   have := splitB_ne b y
   have h2 : (splitB b y).length = 0 := by omega
   exact absurd (List.eq_nil_of_length_eq_zero h2) this
  ·rw [splitB_self b l hm]
   rfl
 | succ k ih =>
  intro l
  by_cases hm : b ∈ l
  ·obtain ⟨x, y, rfl, hx⟩ := List.eq_append_cons_of_mem hm
   have e : Lib.splitK [b] 0 (k + 1) (x ++ b :: y) = x :: Lib.splitK [b] 0 k y := by
    rw [Lib.splitK, index_byte b x y hx, if_neg (by simp)]
    simp
   rw [splitB_first b x y hx, e, List.length_cons, List.length_cons]
   refine ⟨fun h => by rw [(ih y).1 (by omega)], fun h => by rw [(ih y).2 (by omega)]⟩
  ·rw [splitB_self b l hm]
   refine ⟨fun _ => ?_, fun h => by simp at h⟩
   unfold Lib.splitK
   rw [index_no b l hm, if_pos (by decide)]
theorem splitB_count (b : UInt8) (l : List UInt8) : (splitB b l).length ≤ l.length + 1 := by
 induction l with
 | nil => simp [splitB]
 | cons c r ih =>
  unfold splitB
  split
  ·simp only [List.length_cons]; omega
  ·have := splitB_ne b r
   cases hs : splitB b r with
   | nil => exact absurd hs this
   | cons x xs =>
    rw [hs] at ih
    simp only [headOn, List.length_cons] at ih ⊢
    omega
def mapO {α : Type} (f : List UInt8 → Option α) : List (List UInt8) → Option (List α)
 | [] => some []
 | w :: r => match f w with
  | none => none
  | some x => match mapO f r with
   | none => none
   | some xs => some (x :: xs)
theorem mapO_length {α : Type} (f : List UInt8 → Option α) (W : List (List UInt8)) : ∀ m, mapO f W = some m → m.length = W.length := by
 induction W with
 | nil =>
  intro m h
  simp only [mapO, Option.some.injEq] at h
  subst h
  rfl
 | cons w r ih =>
  intro m h
  simp only [mapO] at h
  split at h
  ·cases h
  ·split at h
   ·cases h
   ·rename_i xs hxs
    injection h with h
    subst h
    rw [List.length_cons, List.length_cons, ih xs hxs]
theorem mapO_same {α : Type} (f g : List UInt8 → Option α) (p : α → Bool) (W : List (List UInt8)) (h : ∀ w ∈ W, ∀ x, f w = some x → p x = true → g w = some x) : ∀ m, mapO f W = some m → m.all p = true → mapO g W = some m := by
 induction W with
 | nil => intro m hm _; simpa [mapO] using hm
 | cons w r ih =>
  intro m hm hp
  simp only [mapO] at hm ⊢
  split at hm
  ·cases hm
  ·rename_i x hx
   split at hm
   ·cases hm
   ·rename_i xs hxs
    injection hm with hm
    subst hm
    rw [List.all_cons, Bool.and_eq_true] at hp
    rw [h w (by simp) x hx hp.1]
    simp only
    rw [ih (fun w' hw' => h w' (by simp [hw'])) xs hxs hp.2]
theorem readDec_true (b : List UInt8) (n : Int) (h : readDecB ⟨b.toArray⟩ = (n, true)) : b = Lib.itoa n := by
 have e : (⟨b.toArray⟩ : ByteArray).data.toList = b := by simp
 unfold readDecB at h
 rw [e] at h
 split at h
 ·split at h
  ·simp at h
  ·split at h
   ·rename_i h2
    injection h with h3 _
    rw [← h3]
    exact h2.symm
   ·simp at h
 ·simp at h
theorem num_same (b : List UInt8) (n : Int) (h0 : 1 ≤ n) (h1 : n ≤ 64) : numR b = (n, true) ↔ readDecB ⟨b.toArray⟩ = (n, true) := by
 constructor
 ·intro h
  rw [numR_true b n h (by omega)]
  exact readDec_itoa n (by omega) (by omega)
 ·intro h
  rw [readDec_true b n h]
  exact numR_itoa n (by omega) (by omega)
end Go.Proofs.YtgklofginkafgaaGreatDoor.Pu
end
section
namespace Go.Proofs.YtgklofginkafgaaGreatDoor.Pu
set_option linter.unusedSimpArgs false
set_option linter.unusedVariables false
open Go.RowKit Go.Proofs.YtgklofginkafgaaGreatDoorW.PrintWords Go.Proofs.YtgklofginkafgaaGreatDoor.PS
def okNote (x : S70) : Bool := decide (-12 ≤ x.f0 ∧ x.f0 ≤ 23) && decide (1 ≤ x.f1 ∧ x.f1 ≤ 64)
def okMel (l : List S70) : Bool := decide (l.length ≤ 48) && l.all okNote
theorem rdN_mem (l : List S70) (i : Nat) (h : i < l.length) : rd_T70 l (i : Int) = l[i] := by
 simp [rd_T70, List.getD_eq_getElem?_getD, List.getElem?_eq_getElem h]
theorem dropN_rd (l : List S70) (i : Nat) (h : i < l.length) : l.drop i = rd_T70 l (i : Int) :: l.drop (i + 1) := by
 rw [rdN_mem l i h]
 exact List.drop_eq_getElem_cons h
theorem ValidMelody_l0 (l : List S70) (hl : l.length ≤ 2000000) (d : Nat) : ∀ i : Nat, i + d = l.length → Ev (fun k => impl_ValidMelody.l0 k l (l.length : Int) (i : Int)) ((l.drop i).all okNote) := by
 induction d with
 | zero =>
  intro i hi
  apply Ev_succ
  simp only [impl_ValidMelody.l0, if_neg (show ¬ ((i : Int) < (l.length : Int)) by omega), List.drop_of_length_le (show l.length ≤ i by omega), List.all_nil]
  exact Ev.now _
 | succ d ih =>
  intro i hi
  have hlt : i < l.length := by omega
  have h2 := ih (i + 1) (by omega)
  rw [show ((i + 1 : Nat) : Int) = (i : Int) + 1 by omega] at h2
  apply Ev_succ
  simp only [impl_ValidMelody.l0, impl_pitchOk.f, impl_lengthOk.f, within_eq, Option.bind_some, if_pos (show (i : Int) < (l.length : Int) by omega), if_pos (show 0 ≤ (i : Int) by omega), wr (show -9223372036854775808 ≤ (i : Int) + 1 by omega) (by omega)]
  rw [dropN_rd l i hlt, List.all_cons]
  unfold okNote
  by_cases h : -12 ≤ (rd_T70 l (i : Int)).f0 ∧ (rd_T70 l (i : Int)).f0 ≤ 23
  ·by_cases h3 : 1 ≤ (rd_T70 l (i : Int)).f1 ∧ (rd_T70 l (i : Int)).f1 ≤ 64
   ·simp only [decide_eq_true h, decide_eq_true h3, if_true, Bool.true_and]
    exact h2
   ·simp only [decide_eq_true h, decide_eq_false h3, if_true, Bool.false_eq_true, if_false, Bool.false_and, Bool.and_false]
    exact Ev.now _
  ·simp only [decide_eq_false h, Bool.false_eq_true, if_false, Bool.false_and]
   exact Ev.now _
theorem ValidMelody_eqW (l : List S70) (hl : l.length ≤ 2000000) : Ev (fun k => impl_ValidMelody.f k l) (okMel l) := by
 unfold impl_ValidMelody.f okMel
 by_cases h : l.length ≤ 48
 ·simp only [if_neg (show ¬ ((l.length : Int) > 48) by omega), decide_eq_true h, Bool.true_and]
  exact ValidMelody_l0 l hl l.length 0 (by omega)
 ·simp only [if_pos (show (l.length : Int) > 48 by omega), decide_eq_false h, Bool.false_and]
  exact Ev.now _
theorem okMel_wf {l : List S70} (h : okMel l = true) : l.length ≤ 48 ∧ ∀ x ∈ l, -12 ≤ x.f0 ∧ x.f0 ≤ 23 ∧ 1 ≤ x.f1 ∧ x.f1 ≤ 64 := by
 simp only [okMel, okNote, Bool.and_eq_true, decide_eq_true_eq, List.all_eq_true] at h
 exact ⟨h.1, fun x hx => by have := h.2 x hx; omega⟩
end Go.Proofs.YtgklofginkafgaaGreatDoor.Pu
end
section
namespace Go.Proofs.YtgklofginkafgaaGreatDoor.Pu
set_option linter.unusedSimpArgs false
set_option linter.unusedVariables false
open Go.RowKit Go.Proofs.YtgklofginkafgaaGreatDoorW.PrintWords Go.Proofs.YtgklofginkafgaaGreatDoor.PS
theorem l09Ok_l0 (l : List S70) (hl : l.length ≤ 2000000) (d : Nat) : ∀ i : Nat, i + d = l.length → Ev (fun k => spec_l09Ok.l0 k l (i : Int)) ((l.drop i).all okNote && decide (l.length ≤ 48)) := by
 induction d with
 | zero =>
  intro i hi
  apply Ev_succ
  simp only [spec_l09Ok.l0, if_neg (show ¬ ((i : Int) < (l.length : Int)) by omega), List.drop_of_length_le (show l.length ≤ i by omega), List.all_nil, Bool.true_and]
  rw [show decide ((l.length : Int) ≤ 48) = decide (l.length ≤ 48) by simp; omega]
  exact Ev.now _
 | succ d ih =>
  intro i hi
  have hlt : i < l.length := by omega
  have h2 := ih (i + 1) (by omega)
  rw [show ((i + 1 : Nat) : Int) = (i : Int) + 1 by omega] at h2
  apply Ev_succ
  simp only [spec_l09Ok.l0, spec_l03Pitch.f, spec_l09Length.f, l00In_eq, Option.bind_some, if_pos (show (i : Int) < (l.length : Int) by omega), if_pos (show 0 ≤ (i : Int) by omega), wr (show -9223372036854775808 ≤ (i : Int) + 1 by omega) (by omega)]
  rw [dropN_rd l i hlt, List.all_cons]
  unfold okNote
  by_cases h : -12 ≤ (rd_T70 l (i : Int)).f0 ∧ (rd_T70 l (i : Int)).f0 ≤ 23
  ·by_cases h3 : 1 ≤ (rd_T70 l (i : Int)).f1 ∧ (rd_T70 l (i : Int)).f1 ≤ 64
   ·simp only [decide_eq_true h, decide_eq_true h3, if_true, Bool.true_and]
    exact h2
   ·simp only [decide_eq_true h, decide_eq_false h3, if_true, Bool.false_eq_true, if_false, Bool.false_and, Bool.and_false]
    exact Ev.now _
  ·simp only [decide_eq_false h, Bool.false_eq_true, if_false, Bool.false_and]
   exact Ev.now _
theorem l09Ok_eqW (l : List S70) (hl : l.length ≤ 2000000) : Ev (fun k => spec_l09Ok.f k l) (okMel l) := by
 unfold spec_l09Ok.f okMel
 rw [Bool.and_comm]
 exact l09Ok_l0 l hl l.length 0 (by omega)
end Go.Proofs.YtgklofginkafgaaGreatDoor.Pu
end
section
namespace Go.Proofs.YtgklofginkafgaaGreatDoor.Pu
set_option linter.unusedSimpArgs false
set_option linter.unusedVariables false
open Go.RowKit Go.Proofs.YtgklofginkafgaaGreatDoorW.PrintWords Go.Proofs.YtgklofginkafgaaGreatDoor.PS
def sWord (T : List UInt8 → Int × Bool) (w : List UInt8) : Option S70 :=
 match splitB 58 w with
 | [a, b] => if (T a).2 = true ∧ (numR b).2 = true then some ⟨(T a).1, (numR b).1⟩ else none
 | _ => none
def iWord (T : List UInt8 → Int × Bool) (w : List UInt8) : Option S70 :=
 if (T (Lib.cut w [58]).1).2 = true ∧ (readDecB ⟨(Lib.cut w [58]).2.1.toArray⟩).2 = true then some ⟨(T (Lib.cut w [58]).1).1, (readDecB ⟨(Lib.cut w [58]).2.1.toArray⟩).1⟩ else none
theorem word_si (T : List UInt8 → Int × Bool) (w : List UInt8) (x : S70) (h : sWord T w = some x) (hx : okNote x = true) : iWord T w = some x := by
 unfold sWord at h
 split at h
 ·rename_i a b hab
  obtain ⟨hw, ha, hb⟩ := splitB_pair 58 w a b hab
  split at h
  ·rename_i hc
   injection h with h
   subst h
   unfold okNote at hx
   rw [Bool.and_eq_true, decide_eq_true_eq, decide_eq_true_eq] at hx
   have hn := (num_same b (numR b).1 hx.2.1 hx.2.2).1 (by rw [← hc.2])
   unfold iWord
   rw [hw, cut_byte 58 a b ha]
   simp only [hn]
   rw [if_pos ⟨hc.1, trivial⟩]
  ·cases h
 ·cases h
theorem word_is (T : List UInt8 → Int × Bool) (w : List UInt8) (x : S70) (h : iWord T w = some x) (hx : okNote x = true) : sWord T w = some x := by
 unfold iWord at h
 split at h
 ·rename_i hc
  injection h with h
  subst h
  unfold okNote at hx
  rw [Bool.and_eq_true, decide_eq_true_eq, decide_eq_true_eq] at hx
  by_cases hm : (58 : UInt8) ∈ w
  ·obtain ⟨a, b, rfl, ha⟩ := List.eq_append_cons_of_mem hm
   rw [cut_byte 58 a b ha] at hc hx ⊢
   simp only at hc hx ⊢
   have hn := (num_same b (readDecB ⟨b.toArray⟩).1 hx.2.1 hx.2.2).2 (by rw [← hc.2])
   have hb : (58 : UInt8) ∉ b := by
    rw [readDec_true b (readDecB ⟨b.toArray⟩).1 (by rw [← hc.2])]
    rw [itoa_nat _ (by omega)]
    intro hm2
    have h58 : (58 : UInt8).toNat = 58 := rfl
    have := dec_digits _ _ hm2
    omega
   unfold sWord
   rw [splitB_two 58 a b ha hb]
   simp only [hn]
   rw [if_pos ⟨hc.1, trivial⟩]
  ·rw [cut_none 58 w hm] at hc
   have := readDec_nil
   exact absurd hc.2 (by simp only; rw [show (⟨([] : List UInt8).toArray⟩ : ByteArray) = ⟨#[]⟩ from rfl, this]; decide)
 ·cases h
theorem words_same (T : List UInt8 → Int × Bool) (l : List UInt8) (k : Nat) (hk : k = 48 ∨ (k = l.length ∧ l.length ≤ 48)) (m : List S70) (hm : okMel m = true) :
  mapO (sWord T) (splitB 32 l) = some m ↔ mapO (iWord T) (Lib.splitK [32] 0 k l) = some m := by
 have hms : m.length ≤ 48 ∧ m.all okNote = true := by
  unfold okMel at hm
  rw [Bool.and_eq_true, decide_eq_true_eq] at hm
  exact hm
 by_cases hc : (splitB 32 l).length ≤ k + 1
 ·rw [(splitK_all 32 k l).1 hc]
  exact ⟨fun h => mapO_same _ _ okNote _ (fun w _ x => word_si T w x) m h hms.2, fun h => mapO_same _ _ okNote _ (fun w _ x => word_is T w x) m h hms.2⟩
 ·have h1 := (splitK_all 32 k l).2 (by omega)
  have h2 := splitB_count 32 l
  constructor
  ·intro h
   have := mapO_length _ _ m h
   omega
  ·intro h
   have := mapO_length _ _ m h
   omega
end Go.Proofs.YtgklofginkafgaaGreatDoor.Pu
end
section
namespace Go.Proofs.YtgklofginkafgaaGreatDoor.Pu
set_option linter.unusedSimpArgs false
set_option linter.unusedVariables false
open Go.RowKit Go.Proofs.YtgklofginkafgaaGreatDoorW.PrintWords Go.Proofs.YtgklofginkafgaaGreatDoor.PS
theorem join_tail (sep : List UInt8) (a : List UInt8) (r : List (List UInt8)) : Lib.join (a :: r) sep = a ++ r.flatMap fun x => sep ++ x := by
 unfold Lib.join
 induction r generalizing a with
 | nil => simp [List.intercalate]
 | cons b r ih =>
  have h := ih b
  simp only [List.intercalate, List.intersperse_cons_cons, List.flatten_cons] at h ⊢
  rw [h]
  simp
end Go.Proofs.YtgklofginkafgaaGreatDoor.Pu
end
section
namespace Go.Proofs.YtgklofginkafgaaGreatDoor.Pu
set_option linter.unusedSimpArgs false
set_option linter.unusedVariables false
open Go.RowKit Go.Proofs.YtgklofginkafgaaGreatDoorW.PrintWords Go.Proofs.YtgklofginkafgaaGreatDoor.PS
theorem octB_size (o : Int) (h : o = -1 ∨ o = 0 ∨ o = 1) : (octB o).size ≤ 1 := by rcases h with rfl | rfl | rfl <;> decide
theorem markB_size (o : Int) (h : o = -1 ∨ o = 0 ∨ o = 1) : (markB o).size ≤ 1 := by rcases h with rfl | rfl | rfl <;> decide
theorem pitchB_size (s k p : Int) (k0 : 0 ≤ k) (k1 : k ≤ 11) (p0 : -12 ≤ p) (p1 : p ≤ 23) : (pitchB s k p).size ≤ 200 := by
 have a := (letterB_cell ((p + k) % 12) (by omega) (by omega)).1
 have b := decB_size ((p + k) / 12 + 4) (by omega) (by omega)
 have c := (numberB_cell (p % 12) (by omega) (by omega)).1
 have d := decB_size (p + k + 60) (by omega) (by omega)
 have e := toneB_size (p % 12) (by omega) (by omega)
 have f := octB_size (p / 12) (by omega)
 have g := markB_size (p / 12) (by omega)
 unfold pitchB
 split
 ·rw [ByteArray.size_append]; omega
 ·split
  ·rw [ByteArray.size_append]; omega
  ·split
   ·omega
   ·rw [ByteArray.size_append]; omega
def pT (s k p : Int) : List UInt8 := (pitchB s k p).data.toList
theorem pT_mk (s k p : Int) : pitchB s k p = ⟨(pT s k p).toArray⟩ := by
 apply bytes_ext
 simp [pT]
theorem pT_length (s k p : Int) (k0 : 0 ≤ k) (k1 : k ≤ 11) (p0 : -12 ≤ p) (p1 : p ≤ 23) : (pT s k p).length ≤ 200 := by
 have := pitchB_size s k p k0 k1 p0 p1
 rw [pT_mk, size_mk] at this
 exact this
def keyOk (s k : Int) : Bool := decide (1 ≤ s ∧ s ≤ 4) && decide (0 ≤ k ∧ k ≤ 11)
theorem keyOk_wf {s k : Int} (h : keyOk s k = true) : 1 ≤ s ∧ s ≤ 4 ∧ 0 ≤ k ∧ k ≤ 11 := by
 simp only [keyOk, Bool.and_eq_true, decide_eq_true_eq] at h
 exact ⟨h.1.1, h.1.2, h.2.1, h.2.2⟩
theorem l26Script_eq (s k : Int) : spec_l26Script.f s k = some (keyOk s k) := by
 unfold spec_l26Script.f keyOk
 simp only [l00In_eq, Option.bind_some]
 by_cases h : 1 ≤ s ∧ s ≤ 4
 ·simp only [decide_eq_true h, if_true, Bool.true_and]
 ·simp only [decide_eq_false h, Bool.false_eq_true, if_false, Bool.false_and]
theorem keyOk_eq (s k : Int) : impl_keyOk.f s k = some (keyOk s k) := by
 unfold impl_keyOk.f keyOk
 simp only [within_eq, Option.bind_some]
 by_cases h : 1 ≤ s ∧ s ≤ 4
 ·simp only [decide_eq_true h, if_true, Bool.true_and]
 ·simp only [decide_eq_false h, Bool.false_eq_true, if_false, Bool.false_and]
theorem sPitch_eq (s k p : Int) (h : keyOk s k = true) (p0 : -12 ≤ p) (p1 : p ≤ 23) : spec_l26Pitch.f s k p = some ⟨(pT s k p).toArray⟩ := by
 obtain ⟨a, b, c, d⟩ := keyOk_wf h
 unfold spec_l26Pitch.f
 rw [if_pos ⟨a, b, c, d, p0, p1⟩, pT_mk]
theorem pitchIn_eq (s k p : Int) (h : keyOk s k = true) (p0 : -12 ≤ p) (p1 : p ≤ 23) : impl_pitchIn.f s k p = some ⟨(pT s k p).toArray⟩ := by
 obtain ⟨a, b, c, d⟩ := keyOk_wf h
 unfold impl_pitchIn.f
 rw [if_pos ⟨c, d, p0, p1⟩, pT_mk]
end Go.Proofs.YtgklofginkafgaaGreatDoor.Pu
end
section
namespace Go.Proofs.YtgklofginkafgaaGreatDoor.Pu
set_option linter.unusedSimpArgs false
set_option linter.unusedVariables false
open Go.RowKit Go.Proofs.YtgklofginkafgaaGreatDoorW.PrintWords Go.Proofs.YtgklofginkafgaaGreatDoor.PS
def rpT (s k : Int) (w : List UInt8) : Int × Bool := leastP (fun p => (pitchB s k p).toList == w) (-12) 36
theorem readPitchIn_eq (s k : Int) (w : List UInt8) (h : keyOk s k = true) : impl_readPitchIn.f s k ⟨w.toArray⟩ = some (rpT s k w) := by
 obtain ⟨_, _, c, e⟩ := keyOk_wf h
 unfold impl_readPitchIn.f rpT
 rw [if_pos ⟨c, e⟩, mk_toList]
theorem pitchB_pT (s k p : Int) : (pitchB s k p).toList = pT s k p := by rw [toList_data]; rfl
theorem l26ReadPitch_l0 (s k : Int) (w : List UInt8) (h : keyOk s k = true) (d : Nat) : ∀ p : Int, p + d = 24 → -12 ≤ p → Ev (fun n => spec_l26ReadPitch.l0 n s k ⟨w.toArray⟩ p) (leastP (fun p => (pitchB s k p).toList == w) p d) := by
 induction d with
 | zero =>
  intro p hp h0
  apply Ev_succ
  simp only [spec_l26ReadPitch.l0, if_neg (show ¬ (p ≤ 23) by omega)]
  exact Ev.now _
 | succ d ih =>
  intro p hp h0
  apply Ev_succ
  simp only [spec_l26ReadPitch.l0, if_pos (show p ≤ 23 by omega), sPitch_eq s k p h h0 (by omega), Option.bind_some, mk_toList, wr (show -9223372036854775808 ≤ p + 1 by omega) (by omega)]
  rw [leastP]
  by_cases e : pT s k p = w
  ·have e2 : ((pitchB s k p).toList == w) = true := by rw [pitchB_pT]; exact beq_iff_eq.2 e
   simp only [if_pos e, e2, if_true]
   exact Ev.now _
  ·have e2 : ((pitchB s k p).toList == w) = false := by rw [pitchB_pT]; exact beq_eq_false_iff_ne.2 e
   simp only [if_neg e, e2, Bool.false_eq_true, if_false]
   exact ih (p + 1) (by omega) (by omega)
theorem l26ReadPitch_eq (s k : Int) (w : List UInt8) (h : keyOk s k = true) : Ev (fun n => spec_l26ReadPitch.f n s k ⟨w.toArray⟩) (rpT s k w) := l26ReadPitch_l0 s k w h 36 (-12) (by omega) (by omega)
theorem rdW (W : List (List UInt8)) (i : Nat) (h : i < W.length) : rdOf ByteArray.empty (W.map mkB) (i : Int) = ⟨W[i].toArray⟩ := by
 simp [rdOf, List.getD_eq_getElem?_getD, List.getElem?_map, List.getElem?_eq_getElem h, mkB]
theorem splitB_len (b : UInt8) (l : List UInt8) : ∀ w ∈ splitB b l, w.length ≤ l.length := by
 induction l with
 | nil => intro w hw; simp only [splitB, List.mem_singleton] at hw; subst hw; simp
 | cons c r ih =>
  intro w hw
  unfold splitB at hw
  by_cases hc : c = b
  ·rw [if_pos hc] at hw
   rcases List.mem_cons.1 hw with h | h
   ·subst h
    simp
   ·have := ih w h
    rw [List.length_cons]
    omega
  ·rw [if_neg hc] at hw
   cases hs : splitB b r with
   | nil => exact absurd hs (splitB_ne b r)
   | cons x xs =>
    rw [hs] at hw ih
    simp only [headOn] at hw
    rcases List.mem_cons.1 hw with h | h
    ·subst h
     have := ih x (by simp)
     simp only [List.singleton_append, List.length_cons]
     omega
    ·have := ih w (by simp [h])
     rw [List.length_cons]
     omega
theorem splitK_len (b : UInt8) (k : Nat) : ∀ l : List UInt8, ∀ w ∈ Lib.splitK [b] 0 k l, w.length ≤ l.length := by
 induction k with
 | zero => intro l w hw; simp only [Lib.splitK, List.mem_singleton] at hw; subst hw; omega
 | succ k ih =>
  intro l w hw
  by_cases hm : b ∈ l
  ·obtain ⟨x, y, rfl, hx⟩ := List.eq_append_cons_of_mem hm
   have e : Lib.splitK [b] 0 (k + 1) (x ++ b :: y) = x :: Lib.splitK [b] 0 k y := by
    rw [Lib.splitK, index_byte b x y hx, if_neg (by simp)]
    simp
   rw [e] at hw
   rw [List.length_append, List.length_cons]
   rcases List.mem_cons.1 hw with h | h
   ·subst h
    omega
   ·have := ih y w h
    omega
  ·unfold Lib.splitK at hw
   rw [index_no b l hm, if_pos (by decide), List.mem_singleton] at hw
   subst hw
   omega
theorem sRead_l0 (s k : Int) (hk : keyOk s k = true) (W : List (List UInt8)) (hW : W.length ≤ 2000000) (hw : ∀ w ∈ W, w.length ≤ 1048576) (d : Nat) : ∀ (i : Nat) (acc : List S70), i + d = W.length → acc.length = i →
  Ev (fun n => spec_l26Read.l0 n s k acc (W.map mkB) (i : Int)) (match mapO (sWord (rpT s k)) (W.drop i) with | some m => if okMel (acc ++ m) = true then (acc ++ m, true) else ([], false) | none => ([], false)) := by
 induction d with
 | zero =>
  intro i acc hi ha
  apply Ev_succ
  simp only [spec_l26Read.l0, if_neg (show ¬ ((i : Int) < ((W.map mkB).length : Int)) by rw [List.length_map]; omega), List.drop_of_length_le (show W.length ≤ i by omega), mapO, List.append_nil]
  refine Ev.bind (l09Ok_eqW acc (by omega)) ?_
  cases okMel acc with
  | true => simp only [if_true]; exact Ev.now _
  | false => simp only [Bool.false_eq_true, if_false]; exact Ev.now _
 | succ d ih =>
  intro i acc hi ha
  have hlt : i < W.length := by omega
  have hwl := hw W[i] (List.getElem_mem hlt)
  have hs := l01Split_eq W[i] (by omega) 58
  rw [show ((58 : UInt8).toNat : Int) = 58 from rfl] at hs
  have hx := splitB_len 58 W[i]
  apply Ev_succ
  simp only [spec_l26Read.l0, if_pos (show (i : Int) < ((W.map mkB).length : Int) by rw [List.length_map]; omega), if_pos (show (0 : Int) ≤ (i : Int) by omega), rdW W i hlt]
  rw [List.drop_eq_getElem_cons hlt]
  simp only [mapO, sWord]
  refine Ev.bind hs ?_
  generalize splitB 58 W[i] = L at hx
  rcases L with _ | ⟨a, _ | ⟨b, _ | ⟨c, t⟩⟩⟩
  ·simp only [List.map_nil, List.length_nil, if_neg (show ¬ (((0 : Nat) : Int) = 2) by omega)]
   exact Ev.now _
  ·simp only [List.map_cons, List.map_nil, List.length_cons, List.length_nil, if_neg (show ¬ (((0 + 1 : Nat) : Int) = 2) by omega)]
   exact Ev.now _
  ·have ha1 := hx a (by simp)
   have hb1 := hx b (by simp)
   have e0 : rdOf ByteArray.empty [mkB a, mkB b] 0 = ⟨a.toArray⟩ := rfl
   have e1 : rdOf ByteArray.empty [mkB a, mkB b] 1 = ⟨b.toArray⟩ := rfl
   simp only [List.map_cons, List.map_nil, List.length_cons, List.length_nil, if_pos (show ((0 + 1 + 1 : Nat) : Int) = 2 by omega), if_pos (show (0 : Int) < ((0 + 1 + 1 : Nat) : Int) by omega), if_pos (show (1 : Int) < ((0 + 1 + 1 : Nat) : Int) by omega), e0, e1]
   refine Ev.bind (l26ReadPitch_eq s k a hk) ?_
   refine Ev.bind (l01Number_eq b (by omega)) ?_
   cases hp : (rpT s k a).2 with
   | false => simp only [Bool.false_eq_true, if_false, false_and]; exact Ev.now _
   | true =>
    cases hn : (numR b).2 with
    | false => simp only [Bool.false_eq_true, if_true, if_false, and_false]; exact Ev.now _
    | true =>
     simp only [if_true, and_self, if_pos (show acc.length < 8796093022208 by omega), wr (show -9223372036854775808 ≤ (i : Int) + 1 by omega) (by omega)]
     have h2 := ih (i + 1) (acc ++ [(⟨(rpT s k a).1, (numR b).1⟩ : S70)]) (by omega) (by rw [List.length_append, List.length_singleton]; omega)
     rw [show ((i + 1 : Nat) : Int) = (i : Int) + 1 by omega] at h2
     refine Go_Ev_cast h2 ?_
     cases mapO (sWord (rpT s k)) (W.drop (i + 1)) with
     | none => rfl
     | some m => simp only [List.append_assoc, List.singleton_append]
  ·simp only [List.map_cons, List.length_cons, if_neg (show ¬ ((((t.map mkB).length + 1 + 1 + 1 : Nat) : Int) = 2) by omega)]
   exact Ev.now _
theorem iRead_l0 (s k : Int) (hk : keyOk s k = true) (W : List (List UInt8)) (hW : W.length ≤ 100) (hw : ∀ w ∈ W, w.length ≤ 1048576) (d : Nat) : ∀ (i : Nat) (acc : List S70), i + d = W.length → acc.length = i →
  Ev (fun n => impl_readNotesIn.l0 n s k acc (W.map mkB) (W.length : Int) (i : Int)) (match mapO (iWord (rpT s k)) (W.drop i) with | some m => (acc ++ m, okMel (acc ++ m)) | none => ([], false)) := by
 induction d with
 | zero =>
  intro i acc hi ha
  apply Ev_succ
  simp only [impl_readNotesIn.l0, if_neg (show ¬ ((i : Int) < (W.length : Int)) by omega), List.drop_of_length_le (show W.length ≤ i by omega), mapO, List.append_nil]
  exact Ev.bind (ValidMelody_eqW acc (by omega)) (Ev.now _)
 | succ d ih =>
  intro i acc hi ha
  have hlt : i < W.length := by omega
  have hwl := hw W[i] (List.getElem_mem hlt)
  have hc := cut_len W[i] [58]
  have hcut : strings_Cut.f ⟨W[i].toArray⟩ ⟨#[58]⟩ = some (⟨(Lib.cut W[i] [58]).1.toArray⟩, ⟨(Lib.cut W[i] [58]).2.1.toArray⟩, (Lib.cut W[i] [58]).2.2) := by
   unfold strings_Cut.f
   rw [if_pos (by rw [size_mk]; omega)]
  apply Ev_succ
  simp only [impl_readNotesIn.l0, if_pos (show (i : Int) < (W.length : Int) by omega), if_pos (show (i : Int) < ((W.map mkB).length : Int) by rw [List.length_map]; omega), if_pos (show (0 : Int) ≤ (i : Int) by omega), rdW W i hlt, hcut, Option.bind_some, readPitchIn_eq s k _ hk]
  rw [ReadDecimal_eq _ (by omega), List.drop_eq_getElem_cons hlt]
  simp only [Option.bind_some, mapO, iWord]
  generalize (Lib.cut W[i] [58]).1 = a
  generalize (Lib.cut W[i] [58]).2.1 = b
  cases hp : (rpT s k a).2 with
  | false => simp only [Bool.false_eq_true, if_false, false_and]; exact Ev.now _
  | true =>
   cases hn : (readDecB ⟨b.toArray⟩).2 with
   | false => simp only [Bool.false_eq_true, if_true, if_false, and_false]; exact Ev.now _
   | true =>
    simp only [if_true, and_self, if_pos (show acc.length < 8796093022208 by omega), wr (show -9223372036854775808 ≤ (i : Int) + 1 by omega) (by omega)]
    have h2 := ih (i + 1) (acc ++ [(⟨(rpT s k a).1, (readDecB ⟨b.toArray⟩).1⟩ : S70)]) (by omega) (by rw [List.length_append, List.length_singleton]; omega)
    rw [show ((i + 1 : Nat) : Int) = (i : Int) + 1 by omega] at h2
    refine Go_Ev_cast h2 ?_
    cases mapO (iWord (rpT s k)) (W.drop (i + 1)) with
    | none => rfl
    | some m => simp only [List.append_assoc, List.singleton_append]
def readR (s k : Int) (l : List UInt8) : Option (List S70) :=
 if l = [] then some [] else match mapO (sWord (rpT s k)) (splitB 32 l) with | some m => if okMel m = true then some m else none | none => none
theorem readR_ok (s k : Int) (l : List UInt8) (m : List S70) (h : readR s k l = some m) : okMel m = true := by
 unfold readR at h
 split at h
 ·injection h with h
  subst h
  rfl
 ·split at h
  ·split at h
   ·injection h with h
    subst h
    assumption
   ·cases h
  ·cases h
theorem sRead_eq (s k : Int) (hk : keyOk s k = true) (l : List UInt8) (hl : l.length ≤ 1048576) :
  Ev (fun n => spec_l26Read.f n s k ⟨l.toArray⟩) (match readR s k l with | some m => (m, true) | none => ([], false)) := by
 unfold spec_l26Read.f readR
 simp only [Option.bind_some, mk_toList]
 by_cases e : l = []
 ·simp only [if_pos e]
  exact Ev.now _
 ·simp only [if_neg e]
  have hs := l01Split_eq l (by omega) 32
  rw [show ((32 : UInt8).toNat : Int) = 32 from rfl] at hs
  refine Ev.bind hs ?_
  have hc := splitB_count 32 l
  have h := sRead_l0 s k hk (splitB 32 l) (by omega) (fun w hw => by have := splitB_len 32 l w hw; omega) _ 0 [] (Nat.zero_add _) rfl
  refine Go_Ev_cast h ?_
  rw [List.drop_zero]
  cases mapO (sWord (rpT s k)) (splitB 32 l) with
  | none => rfl
  | some m =>
   simp only [List.nil_append]
   cases okMel m <;> rfl
theorem SplitN_eq (l : List UInt8) (hl : l.length ≤ 1048576) : strings_SplitN.f ⟨l.toArray⟩ ⟨#[32]⟩ 49 = some ((Lib.splitK [32] 0 (min 49 (l.length + 1) - 1) l).map mkB) := by
 unfold strings_SplitN.f
 rw [if_pos ⟨by rw [size_mk]; omega, by decide, by omega, by omega⟩, size_mk]
 congr 1
 have h1 := Lib.splitB_data ⟨#[32]⟩ 0 (min (49 : Int).toNat (l.length + 1) - 1) ⟨l.toArray⟩
 have h7 : (Lib.splitB ⟨#[32]⟩ 0 (min (49 : Int).toNat (l.length + 1) - 1) ⟨l.toArray⟩).map (·.data.toList) = Lib.splitK [32] 0 (min 49 (l.length + 1) - 1) l := by rw [h1]; rfl
 rw [← h7, List.map_map]
 refine ((List.map_congr_left (fun x _ => ?_)).trans (List.map_id _)).symm
 show mkB x.data.toList = x
 unfold mkB
 cases x
 simp
def ReadI (o : Option (List S70)) (r : List S70 × Bool) : Prop :=
 match o with
 | some m => r = (m, true)
 | none => r.2 = false
theorem iRead_eq (s k : Int) (hk : keyOk s k = true) (l : List UInt8) (hl : l.length ≤ 1048576) : ∃ r, Ev (fun n => impl_readNotesIn.f n s k ⟨l.toArray⟩) r ∧ ReadI (readR s k l) r := by
 unfold impl_readNotesIn.f
 simp only [mk_toList]
 by_cases e : l = []
 ·refine ⟨([], true), ?_, ?_⟩
  ·simp only [if_pos e]
   exact Ev.now _
  ·unfold readR
   rw [if_pos e]
   rfl
 ·have hpos : 1 ≤ l.length := List.length_pos_iff.2 e
  have hS := SplitN_eq l hl
  have hsame := words_same (rpT s k) l (min 49 (l.length + 1) - 1) (by omega)
  have hlen : (Lib.splitK [32] 0 (min 49 (l.length + 1) - 1) l).length ≤ 100 := by
   have := splitK_all 32 (min 49 (l.length + 1) - 1) l
   by_cases hc : (splitB 32 l).length ≤ min 49 (l.length + 1) - 1 + 1
   ·rw [this.1 hc]
    omega
   ·rw [this.2 (by omega)]
    omega
  have hwl := splitK_len 32 (min 49 (l.length + 1) - 1) l
  generalize Lib.splitK [32] 0 (min 49 (l.length + 1) - 1) l = W at *
  have h := iRead_l0 s k hk W hlen (fun w hw => by have := hwl w hw; omega) _ 0 [] (Nat.zero_add _) rfl
  rw [List.drop_zero] at h
  refine ⟨(match mapO (iWord (rpT s k)) W with | some m => ([] ++ m, okMel ([] ++ m)) | none => ([], false)), ?_, ?_⟩
  ·simp only [if_neg e, hS, Option.bind_some, List.length_map]
   exact h
  ·unfold readR
   rw [if_neg e]
   cases hi : mapO (iWord (rpT s k)) W with
   | none =>
    simp only
    cases hs : mapO (sWord (rpT s k)) (splitB 32 l) with
    | none => rfl
    | some m =>
     simp only
     by_cases hm : okMel m = true
     ·have := (hsame m hm).1 hs
      rw [hi] at this
      cases this
     ·rw [if_neg hm]
      rfl
   | some m =>
    simp only [List.nil_append]
    by_cases hm : okMel m = true
    ·have := (hsame m hm).2 hi
     rw [this]
     simp only
     rw [if_pos hm]
     show (m, okMel m) = (m, true)
     rw [hm]
    ·have hf : okMel m = false := by simpa using hm
     cases hs : mapO (sWord (rpT s k)) (splitB 32 l) with
     | none => exact hf
     | some m2 =>
      simp only
      by_cases hm2 : okMel m2 = true
      ·have := (hsame m2 hm2).1 hs
       rw [hi] at this
       injection this with this
       rw [this] at hm
       exact absurd hm2 hm
      ·rw [if_neg hm2]
       exact hf
end Go.Proofs.YtgklofginkafgaaGreatDoor.Pu
end
section
namespace Go.Proofs.YtgklofginkafgaaGreatDoor.Pu
set_option linter.unusedSimpArgs false
set_option linter.unusedVariables false
open Go.RowKit Go.Proofs.YtgklofginkafgaaGreatDoorW.PrintWords Go.Proofs.YtgklofginkafgaaGreatDoor.PS
def revD (u : Nat) : List Int := if h : u = 0 then [] else ((48 + u % 10 : Nat) : Int) :: revD (u / 10)
termination_by u
decreasing_by omega
theorem revD_dec (u : Nat) (h : u ≠ 0) : (revD u).reverse.map (fun n => UInt8.ofNat n.toNat) = Lib.decDigits u := by
 induction u using Nat.strongRecOn with
 | _ u ih =>
  rw [revD, dif_neg h, List.reverse_cons, List.map_append]
  by_cases h1 : u < 10
  ·rw [Lib.decDigits, dif_pos h1, show u / 10 = 0 by omega, revD, dif_pos rfl]
   simp only [List.reverse_nil, List.map_nil, List.nil_append, List.map_cons, Int.toNat_natCast]
   rw [show u % 10 = u by omega]
  ·rw [Lib.decDigits, dif_neg h1, ih (u / 10) (by omega) (by omega)]
   simp only [List.map_cons, List.map_nil, Int.toNat_natCast]
theorem l01Dec_l1 (xs : List Int) (hx : xs.length ≤ 1000) (n : Nat) : ∀ acc : List Int, acc.length + n ≤ 1000 → n ≤ xs.length → Ev (fun k => spec_l01Dec.l1 k xs acc ((n : Int) - 1)) (strOfNums (acc ++ (xs.take n).reverse)) := by
 induction n with
 | zero =>
  intro acc _ _
  apply Ev_succ
  simp only [spec_l01Dec.l1, if_neg (show ¬ (((0 : Nat) : Int) - 1 ≥ 0) by omega), List.take_zero, List.reverse_nil, List.append_nil]
  exact Ev.now _
 | succ n ih =>
  intro acc ha hn
  apply Ev_succ
  have e : (((n + 1 : Nat) : Int) - 1) = (n : Int) := by omega
  simp only [spec_l01Dec.l1, e, if_pos (show (n : Int) ≥ 0 by omega), if_pos (show 0 ≤ (n : Int) by omega), if_pos (show (n : Int) < (xs.length : Int) by omega), if_pos (show acc.length < 140737488355328 by omega), wr (show -9223372036854775808 ≤ (n : Int) - 1 by omega) (by omega)]
  have h2 := ih (acc ++ [rd xs (n : Int)]) (by rw [List.length_append, List.length_singleton]; omega) (by omega)
  rw [List.append_assoc] at h2
  have h3 : [rd xs (n : Int)] ++ (xs.take n).reverse = (xs.take (n + 1)).reverse := by
   rw [List.take_succ_eq_append_getElem (by omega), List.reverse_append]
   simp [rd, List.getD_eq_getElem?_getD, List.getElem?_eq_getElem (show n < xs.length by omega)]
  rwa [h3] at h2
theorem l01Dec_j1 (xs : List Int) (hx : xs.length ≤ 1000) : Ev (fun k => spec_l01Dec.j1 k xs) (strOfNums xs.reverse) := by
 apply Ev_succ
 simp only [spec_l01Dec.j1, wr (show -9223372036854775808 ≤ (xs.length : Int) - 1 by omega) (by omega)]
 have h := l01Dec_l1 xs hx xs.length [] (by simpa using hx) (Nat.le_refl _)
 simpa using h
theorem tm (u : Nat) : Int.tmod (u : Int) 10 = ((u % 10 : Nat) : Int) := by
 rw [Int.tmod_eq_emod_of_nonneg (by omega)]
 omega
theorem td (u : Nat) : Int.tdiv (u : Int) 10 = ((u / 10 : Nat) : Int) := by
 rw [Int.tdiv_eq_ediv_of_nonneg (by omega)]
 omega
theorem l01Dec_pos (x0 : Int) (h0 : ¬ x0 < 0) (j : Nat) : ∀ (u : Nat) (xs : List Int), u < 10 ^ j → u < 9223372036854775808 → xs.length + j ≤ 900 → Ev (fun k => spec_l01Dec.l0 k x0 xs (u : Int)) (strOfNums (xs ++ revD u).reverse) := by
 induction j with
 | zero =>
  intro u xs hu _ hx
  have : u = 0 := by simpa using hu
  subst this
  apply Ev_succ
  simp only [spec_l01Dec.l0, if_pos (show ((0 : Nat) : Int) = 0 from rfl), if_neg h0]
  rw [revD, dif_pos rfl, List.append_nil]
  exact l01Dec_j1 xs (by omega)
 | succ j ih =>
  intro u xs hu hub hx
  apply Ev_succ
  by_cases hz : u = 0
  ·subst hz
   simp only [spec_l01Dec.l0, if_pos (show ((0 : Nat) : Int) = 0 from rfl), if_neg h0]
   rw [revD, dif_pos rfl, List.append_nil]
   exact l01Dec_j1 xs (by omega)
  ·have e : (wrap64 (48 + ((u % 10 : Nat) : Int))) % 256 = ((48 + u % 10 : Nat) : Int) := by
    rw [wr (by omega) (by omega)]
    omega
   simp only [spec_l01Dec.l0, if_neg (show ¬ ((u : Int) = 0) by omega), tm, td, if_neg (show ¬ (((u % 10 : Nat) : Int) < 0) by omega), if_pos (show xs.length < 140737488355328 by omega), e, wr (show -9223372036854775808 ≤ ((u / 10 : Nat) : Int) by omega) (by omega)]
   have h2 := ih (u / 10) (xs ++ [((48 + u % 10 : Nat) : Int)]) (by rw [Nat.pow_succ] at hu; omega) (by omega) (by rw [List.length_append, List.length_singleton]; omega)
   rw [List.append_assoc] at h2
   rw [revD, dif_neg hz]
   exact h2
theorem l01Dec_neg (x0 : Int) (h0 : x0 < 0) (j : Nat) : ∀ (u : Nat) (xs : List Int), u < 10 ^ j → u ≤ 9223372036854775808 → xs.length + j ≤ 900 → Ev (fun k => spec_l01Dec.l0 k x0 xs (-(u : Int))) (strOfNums ((xs ++ revD u) ++ [45]).reverse) := by
 induction j with
 | zero =>
  intro u xs hu _ hx
  have : u = 0 := by simpa using hu
  subst this
  apply Ev_succ
  simp only [spec_l01Dec.l0, if_pos (show (-((0 : Nat) : Int)) = 0 from rfl), if_pos h0, if_pos (show xs.length < 140737488355328 by omega)]
  rw [revD, dif_pos rfl, List.append_nil]
  exact l01Dec_j1 (xs ++ [45]) (by rw [List.length_append, List.length_singleton]; omega)
 | succ j ih =>
  intro u xs hu hub hx
  apply Ev_succ
  by_cases hz : u = 0
  ·subst hz
   simp only [spec_l01Dec.l0, if_pos (show (-((0 : Nat) : Int)) = 0 from rfl), if_pos h0, if_pos (show xs.length < 140737488355328 by omega)]
   rw [revD, dif_pos rfl, List.append_nil]
   exact l01Dec_j1 (xs ++ [45]) (by rw [List.length_append, List.length_singleton]; omega)
  ·have e1 : Int.tmod (-(u : Int)) 10 = -((u % 10 : Nat) : Int) := by rw [Int.neg_tmod, tm]
   have e2 : Int.tdiv (-(u : Int)) 10 = -((u / 10 : Nat) : Int) := by rw [Int.neg_tdiv, td]
   have e : (wrap64 (48 + ((u % 10 : Nat) : Int))) % 256 = ((48 + u % 10 : Nat) : Int) := by
    rw [wr (by omega) (by omega)]
    omega
   have h2 := ih (u / 10) (xs ++ [((48 + u % 10 : Nat) : Int)]) (by rw [Nat.pow_succ] at hu; omega) (by omega) (by rw [List.length_append, List.length_singleton]; omega)
   rw [List.append_assoc xs] at h2
   simp only [spec_l01Dec.l0, if_neg (show ¬ (-(u : Int) = 0) by omega), e1, e2, if_pos (show xs.length < 140737488355328 by omega), wr (show -9223372036854775808 ≤ -((u / 10 : Nat) : Int) by omega) (by omega), Int.neg_neg, wr (show -9223372036854775808 ≤ ((u % 10 : Nat) : Int) by omega) (by omega)]
   rw [revD, dif_neg hz]
   by_cases hm : u % 10 = 0
   ·rw [hm] at h2
    simp only [hm, show ¬ (-((0 : Nat) : Int) < 0) by omega, if_false, show (wrap64 (48 + -((0 : Nat) : Int))) % 256 = ((48 + 0 : Nat) : Int) by rw [wr (by omega) (by omega)]; omega]
    exact h2
   ·simp only [if_pos (show -((u % 10 : Nat) : Int) < 0 by omega), e]
    exact h2
theorem l01Dec_eq (n : Int) (h1 : -9223372036854775808 ≤ n) (h2 : n ≤ 9223372036854775807) : Ev (fun k => spec_l01Dec.f k n) ⟨(Lib.itoa n).toArray⟩ := by
 unfold spec_l01Dec.f
 by_cases h0 : n = 0
 ·subst h0
  simp only [if_pos]
  have : (Lib.itoa 0) = [48] := by decide +kernel
  rw [this]
  exact Ev.now _
 ·simp only [if_neg h0]
  by_cases hn : n < 0
  ·obtain ⟨u, hu⟩ : ∃ u : Nat, n = -(u : Int) := ⟨n.natAbs, by omega⟩
   have h := l01Dec_neg n hn 20 u [] (by omega) (by omega) (by simp)
   rw [← hu] at h
   have e : strOfNums (([] ++ revD u) ++ [45]).reverse = ⟨(Lib.itoa n).toArray⟩ := by
    apply bytes_ext
    rw [strOfNums_data, List.nil_append, List.reverse_append, List.map_append, revD_dec u (by omega)]
    unfold Lib.itoa
    rw [if_pos hn, show n.natAbs = u by omega]
    rfl
   rwa [e] at h
  ·obtain ⟨u, hu⟩ : ∃ u : Nat, n = (u : Int) := ⟨n.natAbs, by omega⟩
   have h := l01Dec_pos n hn 20 u [] (by omega) (by omega) (by simp)
   rw [← hu] at h
   have e : strOfNums ([] ++ revD u).reverse = ⟨(Lib.itoa n).toArray⟩ := by
    apply bytes_ext
    rw [strOfNums_data, List.nil_append, revD_dec u (by omega)]
    unfold Lib.itoa
    rw [if_neg hn, show n.toNat = u by omega]
   rwa [e] at h
end Go.Proofs.YtgklofginkafgaaGreatDoor.Pu
end
section
namespace Go.Proofs.YtgklofginkafgaaGreatDoor.Pu
set_option linter.unusedSimpArgs false
set_option linter.unusedVariables false
open Go.RowKit Go.Proofs.YtgklofginkafgaaGreatDoorW.PrintWords Go.Proofs.YtgklofginkafgaaGreatDoor.PS
def nT (s k : Int) (x : S70) : List UInt8 := pT s k x.f0 ++ 58 :: Lib.itoa x.f1
def tailN (s k : Int) (l : List S70) : List UInt8 := l.flatMap fun n => 32 :: nT s k n
def notesT (s k : Int) : List S70 → List UInt8
 | [] => []
 | a :: r => nT s k a ++ tailN s k r
theorem join_notes (s k : Int) (l : List S70) : Lib.join (l.map (nT s k)) [32] = notesT s k l := by
 cases l with
 | nil => rfl
 | cons a r =>
  rw [List.map_cons, join_tail]
  simp [notesT, tailN, List.flatMap_map]
theorem nT_length (s k : Int) (k0 : 0 ≤ k) (k1 : k ≤ 11) (x : S70) (h : -12 ≤ x.f0 ∧ x.f0 ≤ 23 ∧ 1 ≤ x.f1 ∧ x.f1 ≤ 64) : (nT s k x).length ≤ 221 := by
 have h1 := pT_length s k x.f0 k0 k1 h.1 h.2.1
 have h2 := itoa_length x.f1 (by omega) (by omega)
 unfold nT
 rw [List.length_append, List.length_cons]
 omega
theorem tailN_length (s k : Int) (k0 : 0 ≤ k) (k1 : k ≤ 11) (l : List S70) (hw : ∀ x ∈ l, -12 ≤ x.f0 ∧ x.f0 ≤ 23 ∧ 1 ≤ x.f1 ∧ x.f1 ≤ 64) : (tailN s k l).length ≤ 222 * l.length := by
 induction l with
 | nil => simp [tailN]
 | cons a r ih =>
  have h1 := nT_length s k k0 k1 a (hw a (by simp))
  have h2 := ih (fun x hx => hw x (by simp [hx]))
  unfold tailN at h2 ⊢
  rw [List.flatMap_cons, List.length_append, List.length_cons, List.length_cons]
  omega
theorem notesT_length (s k : Int) (k0 : 0 ≤ k) (k1 : k ≤ 11) (l : List S70) (hw : ∀ x ∈ l, -12 ≤ x.f0 ∧ x.f0 ≤ 23 ∧ 1 ≤ x.f1 ∧ x.f1 ≤ 64) : (notesT s k l).length ≤ 222 * l.length := by
 cases l with
 | nil => simp [notesT]
 | cons a r =>
  have h1 := nT_length s k k0 k1 a (hw a (by simp))
  have h2 := tailN_length s k k0 k1 r (fun x hx => hw x (by simp [hx]))
  simp only [notesT, List.length_append, List.length_cons]
  omega
theorem l26Notes_l0 (s k0 : Int) (hk : keyOk s k0 = true) (l : List S70) (hl : l.length ≤ 48) (hw : ∀ x ∈ l, -12 ≤ x.f0 ∧ x.f0 ≤ 23 ∧ 1 ≤ x.f1 ∧ x.f1 ≤ 64) (d : Nat) :
  ∀ (i : Nat) (acc : List UInt8), i + d = l.length → 0 < i → acc.length + 222 * d ≤ 1000000000 → Ev (fun k => spec_l26Notes.l0 k s k0 l ⟨acc.toArray⟩ (i : Int)) ⟨(acc ++ tailN s k0 (l.drop i)).toArray⟩ := by
 obtain ⟨_, _, c, e⟩ := keyOk_wf hk
 induction d with
 | zero =>
  intro i acc hi _ _
  apply Ev_succ
  simp only [spec_l26Notes.l0, if_neg (show ¬ ((i : Int) < (l.length : Int)) by omega), show l.drop i = [] from List.drop_of_length_le (by omega)]
  simp only [tailN, List.flatMap_nil, List.append_nil]
  exact Ev.now _
 | succ d ih =>
  intro i acc hi h0 ha
  have hlt : i < l.length := by omega
  have hx := hw (rd_T70 l (i : Int)) (by rw [rdN_mem l i hlt]; exact List.getElem_mem hlt)
  have hs := pT_length s k0 _ c e hx.1 hx.2.1
  have hd := itoa_length (rd_T70 l (i : Int)).f1 (by omega) (by omega)
  have e1 : (⟨acc.toArray⟩ : ByteArray) ++ ⟨#[32]⟩ = ⟨(acc ++ [32]).toArray⟩ := app_mk acc [32]
  have e2 : (⟨(pT s k0 (rd_T70 l (i : Int)).f0).toArray⟩ : ByteArray) ++ ⟨#[58]⟩ = ⟨(pT s k0 (rd_T70 l (i : Int)).f0 ++ [58]).toArray⟩ := app_mk _ [58]
  apply Ev_succ
  simp only [spec_l26Notes.l0, if_pos (show (i : Int) < (l.length : Int) by omega), if_pos (show (i : Int) > 0 by omega), size_mk, if_pos (show acc.length + 1 ≤ 9223372036854775807 by omega), if_pos (show 0 ≤ (i : Int) by omega), e1, wr (show -9223372036854775808 ≤ (i : Int) + 1 by omega) (by omega), sPitch_eq s k0 _ hk hx.1 hx.2.1, Option.bind_some, if_pos (show (pT s k0 (rd_T70 l (i : Int)).f0).length + 1 ≤ 9223372036854775807 by omega), e2]
  refine Ev.bind (l01Dec_eq _ (by omega) (by omega)) ?_
  simp only [size_mk, app_mk, List.length_append, List.length_singleton, if_pos (show (pT s k0 (rd_T70 l (i : Int)).f0).length + 1 + (Lib.itoa (rd_T70 l (i : Int)).f1).length ≤ 9223372036854775807 by omega), if_pos (show acc.length + 1 + ((pT s k0 (rd_T70 l (i : Int)).f0).length + 1 + (Lib.itoa (rd_T70 l (i : Int)).f1).length) ≤ 9223372036854775807 by omega)]
  have h2 := ih (i + 1) ((acc ++ [32]) ++ (pT s k0 (rd_T70 l (i : Int)).f0 ++ [58] ++ Lib.itoa (rd_T70 l (i : Int)).f1)) (by omega) (by omega) (by simp only [List.length_append, List.length_singleton]; omega)
  rw [dropN_rd l i hlt]
  rw [show ((i + 1 : Nat) : Int) = (i : Int) + 1 by omega] at h2
  have e3 : (acc ++ [32]) ++ (pT s k0 (rd_T70 l (i : Int)).f0 ++ [58] ++ Lib.itoa (rd_T70 l (i : Int)).f1) ++ tailN s k0 (l.drop (i + 1)) = acc ++ tailN s k0 (rd_T70 l (i : Int) :: l.drop (i + 1)) := by
   simp [tailN, nT]
  rwa [e3] at h2
theorem l26Notes_eq (s k0 : Int) (hk : keyOk s k0 = true) (l : List S70) (hl : l.length ≤ 48) (hw : ∀ x ∈ l, -12 ≤ x.f0 ∧ x.f0 ≤ 23 ∧ 1 ≤ x.f1 ∧ x.f1 ≤ 64) : Ev (fun k => spec_l26Notes.f k s k0 l) ⟨(notesT s k0 l).toArray⟩ := by
 obtain ⟨_, _, c, e⟩ := keyOk_wf hk
 unfold spec_l26Notes.f
 cases l with
 | nil =>
  apply Ev_succ
  simp only [spec_l26Notes.l0, List.length_nil, if_neg (show ¬ ((0 : Int) < ((0 : Nat) : Int)) by omega)]
  exact Ev.now _
 | cons a r =>
  have hx := hw a (by simp)
  have hs := pT_length s k0 a.f0 c e hx.1 hx.2.1
  have hd := itoa_length a.f1 (by omega) (by omega)
  have hlen : (a :: r).length = r.length + 1 := rfl
  have e2 : (⟨(pT s k0 a.f0).toArray⟩ : ByteArray) ++ ⟨#[58]⟩ = ⟨(pT s k0 a.f0 ++ [58]).toArray⟩ := app_mk _ [58]
  apply Ev_succ
  have e0 : rd_T70 (a :: r) 0 = a := rfl
  simp only [spec_l26Notes.l0, if_pos (show (0 : Int) < ((a :: r).length : Int) by omega), if_neg (show ¬ ((0 : Int) > 0) by omega), if_pos (show (0 : Int) ≤ 0 by omega), e0, wr (show -9223372036854775808 ≤ (0 : Int) + 1 by omega) (by omega), sPitch_eq s k0 _ hk hx.1 hx.2.1, Option.bind_some, size_mk, if_pos (show (pT s k0 a.f0).length + 1 ≤ 9223372036854775807 by omega), e2]
  refine Ev.bind (l01Dec_eq _ (by omega) (by omega)) ?_
  have e1 : (⟨#[]⟩ : ByteArray) = ⟨([] : List UInt8).toArray⟩ := rfl
  simp only [e1, size_mk, app_mk, List.length_append, List.length_singleton, List.length_nil, if_pos (show (pT s k0 a.f0).length + 1 + (Lib.itoa a.f1).length ≤ 9223372036854775807 by omega), if_pos (show 0 + ((pT s k0 a.f0).length + 1 + (Lib.itoa a.f1).length) ≤ 9223372036854775807 by omega), List.nil_append]
  have h := l26Notes_l0 s k0 hk (a :: r) hl hw r.length 1 (pT s k0 a.f0 ++ [58] ++ Lib.itoa a.f1) (by omega) (by omega) (by simp only [List.length_append, List.length_singleton]; omega)
  have e3 : pT s k0 a.f0 ++ [58] ++ Lib.itoa a.f1 ++ tailN s k0 ((a :: r).drop 1) = notesT s k0 (a :: r) := by
   simp [notesT, nT]
  rwa [e3] at h
theorem notesIn_l0 (s k0 : Int) (hk : keyOk s k0 = true) (l : List S70) (hl : l.length ≤ 48) (hw : ∀ x ∈ l, -12 ≤ x.f0 ∧ x.f0 ≤ 23 ∧ 1 ≤ x.f1 ∧ x.f1 ≤ 64) (d : Nat) :
  ∀ i : Nat, i + d = l.length → Ev (fun k => impl_notesIn.l0 k s k0 ((l.take i).map fun n => ⟨(nT s k0 n).toArray⟩) l (l.length : Int) (i : Int)) ⟨(notesT s k0 l).toArray⟩ := by
 obtain ⟨_, _, c, e⟩ := keyOk_wf hk
 induction d with
 | zero =>
  intro i hi
  apply Ev_succ
  simp only [impl_notesIn.l0, if_neg (show ¬ ((i : Int) < (l.length : Int)) by omega), List.take_of_length_le (show l.length ≤ i by omega)]
  have e : Lib.join ((l.map fun n => (⟨(nT s k0 n).toArray⟩ : ByteArray)).map (·.data.toList)) (⟨#[32]⟩ : ByteArray).data.toList = notesT s k0 l := by
   rw [← join_notes, List.map_map]
   rfl
  have hb := notesT_length s k0 (by assumption) (by assumption) l hw
  unfold strings_Join.f
  rw [e]
  simp only [if_pos (show (notesT s k0 l).length ≤ 140737488355328 ∧ (l.map fun n => (⟨(nT s k0 n).toArray⟩ : ByteArray)).length ≤ 140737488355328 from ⟨by omega, by rw [List.length_map]; omega⟩), Option.bind_some]
  exact Ev.now _
 | succ d ih =>
  intro i hi
  have hlt : i < l.length := by omega
  have hx := hw (rd_T70 l (i : Int)) (by rw [rdN_mem l i hlt]; exact List.getElem_mem hlt)
  have hs := pT_length s k0 _ c e hx.1 hx.2.1
  have hd := itoa_length (rd_T70 l (i : Int)).f1 (by omega) (by omega)
  have e2 : (⟨(pT s k0 (rd_T70 l (i : Int)).f0).toArray⟩ : ByteArray) ++ ⟨#[58]⟩ = ⟨(pT s k0 (rd_T70 l (i : Int)).f0 ++ [58]).toArray⟩ := app_mk _ [58]
  apply Ev_succ
  simp only [impl_notesIn.l0, if_pos (show (i : Int) < (l.length : Int) by omega), if_pos (show 0 ≤ (i : Int) by omega), pitchIn_eq s k0 _ hk hx.1 hx.2.1, Decimal_eq (rd_T70 l (i : Int)).f1 (by omega) (by omega), Option.bind_some, wr (show -9223372036854775808 ≤ (i : Int) + 1 by omega) (by omega), size_mk, if_pos (show (pT s k0 (rd_T70 l (i : Int)).f0).length + 1 ≤ 9223372036854775807 by omega), e2, app_mk, List.length_append, List.length_singleton, if_pos (show (pT s k0 (rd_T70 l (i : Int)).f0).length + 1 + (Lib.itoa (rd_T70 l (i : Int)).f1).length ≤ 9223372036854775807 by omega)]
  simp only [if_pos (show ((l.take i).map fun n => (⟨(nT s k0 n).toArray⟩ : ByteArray)).length < 8796093022208 by rw [List.length_map, List.length_take]; omega)]
  have h2 := ih (i + 1) (by omega)
  rw [show ((i + 1 : Nat) : Int) = (i : Int) + 1 by omega, List.take_succ_eq_append_getElem hlt, List.map_append, ← rdN_mem l i hlt] at h2
  have e3 : nT s k0 (rd_T70 l (i : Int)) = pT s k0 (rd_T70 l (i : Int)).f0 ++ [58] ++ Lib.itoa (rd_T70 l (i : Int)).f1 := by simp [nT]
  rw [List.map_singleton, e3] at h2
  exact h2
end Go.Proofs.YtgklofginkafgaaGreatDoor.Pu
end
section
namespace Go.Proofs.YtgklofginkafgaaGreatDoor.Pu
set_option linter.unusedSimpArgs false
set_option linter.unusedVariables false
open Go.RowKit Go.Proofs.YtgklofginkafgaaGreatDoorW.PrintWords Go.Proofs.YtgklofginkafgaaGreatDoor.PS
theorem okN_wf (l : List S70) (h : l.all okN = true) : ∀ x ∈ l, -12 ≤ x.f0 ∧ x.f0 ≤ 23 ∧ 1 ≤ x.f1 ∧ x.f1 ≤ 64 := by
 intro x hx
 have := List.all_eq_true.1 h x hx
 simp only [okN, Bool.and_eq_true, decide_eq_true_eq] at this
 omega
def retR (s k o : Int) (l : List UInt8) : ByteArray × Int :=
 if keyOk s k = true ∧ keyOk s o = true then (match readR s k l with | some m => if (m.map (moveN k o)).all okN = true then (⟨(notesT s o (m.map (moveN k o))).toArray⟩, 0) else (⟨#[]⟩, 6) | none => (⟨#[]⟩, 8)) else (⟨#[]⟩, 2)
theorem sRetune_l0 (s k o : Int) (hk : keyOk s o = true) (m : List S70) (hm : m.length ≤ 48) (hw : ∀ x ∈ m, 1 ≤ x.f1 ∧ x.f1 ≤ 64) (d : Nat) : ∀ i : Nat, i + d = m.length → ((m.take i).map (moveN k o)).all okN = true →
  Ev (fun n => spec_RetuneText.l0 n s k o m ((m.take i).map (moveN k o)) (i : Int)) (if ((m.drop i).map (moveN k o)).all okN = true then (⟨(notesT s o (m.map (moveN k o))).toArray⟩, 0) else (⟨#[]⟩, 6)) := by
 induction d with
 | zero =>
  intro i hi ha
  rw [List.take_of_length_le (by omega)] at ha ⊢
  rw [List.drop_of_length_le (by omega)]
  apply Ev_succ
  simp only [spec_RetuneText.l0, if_neg (show ¬ ((i : Int) < (m.length : Int)) by omega), List.map_nil, List.all_nil, if_true]
  exact Ev.bind (l26Notes_eq s o hk (m.map (moveN k o)) (by rw [List.length_map]; exact hm) (okN_wf _ ha)) (Ev.now _)
 | succ d ih =>
  intro i hi ha
  have hlt : i < m.length := by omega
  have hx := hw (rd_T70 m (i : Int)) (by rw [rdN_mem m i hlt]; exact List.getElem_mem hlt)
  have htake : ((m.take (i + 1)).map (moveN k o)) = ((m.take i).map (moveN k o)) ++ [moveN k o (rd_T70 m (i : Int))] := by
   rw [List.take_succ_eq_append_getElem hlt, List.map_append, rdN_mem m i hlt]
   rfl
  apply Ev_succ
  simp only [spec_RetuneText.l0, if_pos (show (i : Int) < (m.length : Int) by omega), if_pos (show (0 : Int) ≤ (i : Int) by omega), spec_l03Pitch.f, l00In_eq, Option.bind_some, wr (show -9223372036854775808 ≤ (i : Int) + 1 by omega) (by omega)]
  rw [dropN_rd m i hlt, List.map_cons, List.all_cons]
  by_cases hp : -12 ≤ wrap64 (wrap64 ((rd_T70 m (i : Int)).f0 + k) - o) ∧ wrap64 (wrap64 ((rd_T70 m (i : Int)).f0 + k) - o) ≤ 23
  ·have hok : okN (moveN k o (rd_T70 m (i : Int))) = true := by
    unfold okN moveN
    simp only [decide_eq_true hp, Bool.true_and, decide_eq_true hx]
   simp only [decide_eq_true hp, if_true, hok, Bool.true_and, if_pos (show ((m.take i).map (moveN k o)).length < 8796093022208 by rw [List.length_map, List.length_take]; omega)]
   have h2 := ih (i + 1) (by omega) (by rw [htake, List.all_append, ha]; simp [hok])
   rw [htake, show ((i + 1 : Nat) : Int) = (i : Int) + 1 by omega] at h2
   exact h2
  ·have hok : okN (moveN k o (rd_T70 m (i : Int))) = false := by
    unfold okN moveN
    simp only [decide_eq_false hp, Bool.false_and]
   simp only [decide_eq_false hp, Bool.false_eq_true, if_false, hok, Bool.false_and]
   exact Ev.now _
theorem sRetune_eq (s k o : Int) (l : List UInt8) (hl : l.length ≤ 1048576) : Ev (fun n => spec_RetuneText.f n s k o ⟨l.toArray⟩) (retR s k o l) := by
 have hbad : ¬ (keyOk s k = true ∧ keyOk s o = true) → Ev (fun n => spec_RetuneText.j0 n s k o ⟨l.toArray⟩ true) (retR s k o l) := by
  intro h
  unfold retR
  rw [if_neg h]
  apply Ev_succ
  simp only [spec_RetuneText.j0, if_true]
  exact Ev.now _
 unfold spec_RetuneText.f
 simp only [l26Script_eq, Option.bind_some]
 cases h1 : keyOk s k with
 | false => simp only [Bool.false_eq_true, if_false]; exact hbad (by rw [h1]; simp)
 | true =>
  simp only [if_true]
  cases h2 : keyOk s o with
  | false => exact hbad (by rw [h2]; simp)
  | true =>
   unfold retR
   rw [if_pos ⟨h1, h2⟩]
   apply Ev_succ
   simp only [spec_RetuneText.j0, Bool.not_true, Bool.false_eq_true, if_false]
   refine Ev.bind (sRead_eq s k h1 l hl) ?_
   cases hr : readR s k l with
   | none => simp only [Bool.false_eq_true, if_false]; exact Ev.now _
   | some m =>
    obtain ⟨a, b⟩ := okMel_wf (readR_ok s k l m hr)
    simp only [if_true]
    exact sRetune_l0 s k o h2 m a (fun x hx => ⟨(b x hx).2.2.1, (b x hx).2.2.2⟩) m.length 0 (by omega) rfl
theorem iRetune_eq (s k o : Int) (l : List UInt8) (hl : l.length ≤ 1048576) : Ev (fun n => impl_RetuneText.f n s k o ⟨l.toArray⟩) (retR s k o l) := by
 unfold impl_RetuneText.f retR
 simp only [keyOk_eq, Option.bind_some]
 cases h1 : keyOk s k with
 | false => simp only [Bool.false_eq_true, if_false, false_and]; exact Ev.now _
 | true =>
  simp only [if_true, true_and]
  cases h2 : keyOk s o with
  | false => simp only [Bool.false_eq_true, if_false]; exact Ev.now _
  | true =>
   simp only [if_true]
   obtain ⟨r, hr1, hr2⟩ := iRead_eq s k h1 l hl
   refine Ev.bind hr1 ?_
   cases hr : readR s k l with
   | none =>
    rw [hr] at hr2
    have hr3 : r.2 = false := hr2
    simp only [hr3, Bool.false_eq_true, if_false]
    exact Ev.now _
   | some m =>
    rw [hr] at hr2
    have hr3 : r = (m, true) := hr2
    subst hr3
    obtain ⟨a, b⟩ := okMel_wf (readR_ok s k l m hr)
    simp only [if_true, retuneBody, if_pos (show m.length ≤ 1000 by omega)]
    by_cases hall : (m.map (moveN k o)).all okN = true
    ·simp only [if_pos hall, if_neg (show ¬ (((m.map (moveN k o)).length : Int) > 48) by rw [List.length_map]; omega)]
     have hn : Ev (fun n => impl_notesIn.f n s o (m.map (moveN k o))) ⟨(notesT s o (m.map (moveN k o))).toArray⟩ := notesIn_l0 s o h2 _ (by rw [List.length_map]; exact a) (okN_wf _ hall) _ 0 (Nat.zero_add _)
     exact Ev.bind hn (Ev.now _)
    ·simp only [if_neg hall]
     exact Ev.now _
end Go.Proofs.YtgklofginkafgaaGreatDoor.Pu
end
section
namespace Go.Proofs.YtgklofginkafgaaGreatDoor.Pu
set_option linter.unusedSimpArgs false
set_option linter.unusedVariables false
open Go.RowKit Go.Proofs.YtgklofginkafgaaGreatDoorW.PrintWords Go.Proofs.YtgklofginkafgaaGreatDoor.PS
theorem lawW (s k o : Int) (t : ByteArray) (_ : (Lit.int .i64 s).wf = true) (_ : (Lit.int .i64 k).wf = true) (_ : (Lit.int .i64 o).wf = true) (ht : t.size ≤ 9223372036854775807) : ∃ n, laws_FnExactRetuneText.f n s k o t = some true := by
 have hz : Ev (fun n => laws_FnExactRetuneText.f n s k o t) true := by
  unfold laws_FnExactRetuneText.f
  by_cases h1 : (t.size : Int) > 1048576
  ·simp only [if_pos h1]
   exact Ev.now _
  ·simp only [if_neg h1]
   have es : t = ⟨t.data.toList.toArray⟩ := by cases t; simp
   generalize t.data.toList = l at es
   subst es
   rw [size_mk] at h1
   refine Ev.bind (sRetune_eq s k o l (by omega)) ?_
   refine Ev.bind (iRetune_eq s k o l (by omega)) ?_
   simp only [if_true]
   exact Ev.now _
 exact hz.rounds
end Go.Proofs.YtgklofginkafgaaGreatDoor.Pu
end
section
namespace Go.Proofs.YtgklofginkafgaaGreatDoor.fnExactRetuneText
open Go.ChangeShapes Go.WideShapes Go.ChangeAt Go.RowKit Go.Proofs.YtgklofginkafgaaGreatDoorY Go.Proofs.YtgklofginkafgaaGreatDoorW.PrintWords Go.Proofs.YtgklofginkafgaaGreatDoor.PS
open Go.ChangeMaps (open_string shut_string)
set_option linter.unusedVariables false
theorem own : ownKnob Tryz.prog.godebug = none := by kernel_rfl
theorem laidOut : laidOutB Tryz.prog = true := by kernel_rfl
def laid : List (String × DataW Unit) := [("math/bits.deBruijn32tab", Rows.laid_math_bits_deBruijn32tab), ("math/bits.deBruijn64tab", Rows.laid_math_bits_deBruijn64tab), ("internal/strconv.uint64pow10", Rows.laid_internal_strconv_uint64pow10), ("unicode/utf8.acceptRanges", Rows.laid_unicode_utf8_acceptRanges), ("strconv.ErrRange", Rows.laid_strconv_ErrRange), ("strconv.ErrSyntax", Rows.laid_strconv_ErrSyntax), ("unicode/utf8.first", Rows.laid_unicode_utf8_first)]
theorem lv_of {W : World} (h : laidMetH Tryz.prog laid W) (hs : W.ShapedOpen Tryz.prog) : Lv W :=
 ⟨tab_laid (zs := Lib.pow10Tab) (n := 20) (by rw [show (Lib.tabData .u64 Lib.pow10Tab : DataW Unit) = Rows.laid_internal_strconv_uint64pow10 by kernel_rfl]; simp [laid]) (show Tryz.prog.globalNamed "internal/strconv.uint64pow10" = some 1 by kernel_rfl) (by kernel_rfl) Tryz.underlying138 Tryz.underlying78 (by kernel_rfl) (by kernel_rfl) h (by kernel_rfl), cell_of_shapedOpen_int (g := 0) (t := 3) (zero := #[.int .i64 0]) hs (of_decide_eq_true (by kernel_rfl)) (by kernel_rfl) rfl (by kernel_rfl) (by kernel_rfl) Tryz.underlying3, iface_laid (name := "strconv.ErrSyntax") (.tail _ (.tail _ (.tail _ (.tail _ (.tail _ (.head _)))))) (show Tryz.prog.globalNamed "strconv.ErrSyntax" = some 2 by kernel_rfl) (by kernel_rfl) Tryz.underlying101 h (by kernel_rfl), iface_laid (name := "strconv.ErrRange") (.tail _ (.tail _ (.tail _ (.tail _ (.head _))))) (show Tryz.prog.globalNamed "strconv.ErrRange" = some 3 by kernel_rfl) (by kernel_rfl) Tryz.underlying101 h (by kernel_rfl)⟩
set_option maxRecDepth 100000 in
theorem lifted (os : Os) (started : os.Started) (H : Type) (enc : TypeId × Value → H) :
  ReturnsInHanded {} Tryz.checked os 4 .any (fun w args => (Rows.fnExactRetuneTextSpec.pre enc Tryz.prog Tryz.f4 [] false w args ∧ laidMetH Tryz.prog laid w) ∧ sizedMet enc Tryz.prog Tryz.f4 (OpenSpec.ofChange Rows.fnExactRetuneTextSpec) false w args)
   (Rows.fnExactRetuneTextSpec.post enc Tryz.prog Tryz.f4 false true false false) := by
 refine handed_shaped (C := Tryz.checked) (X := fun w _ => laidMetH Tryz.prog laid w) (fun _ _ _ hh h => h.of_heap hh) own started (by kernel_rfl) Tryz.func4
  (ChangeSpec.witness_shaped (enc := enc) (C := Tryz.checked) (os := os) (X := fun w _ => laidMetH Tryz.prog laid w) false (World.laidAll Tryz.prog os laid) #[.int .i64 0, .int .i64 0, .int .i64 0, .string ⟨#[]⟩] 8 (World.laidAll_os _ _ _) (World.shaped_of_ZipB (by kernel_rfl) (by kernel_rfl)) (by kernel_rfl) (by kernel_rfl) (by kernel_rfl) (by rw [MakeChecks.laidMetH_plain _ _ _ (by kernel_rfl)]; exact laidMet_laidAll _ (by kernel_rfl) (by kernel_rfl))) ?_
 intro W base args ds gs before hval0 hW _ hsz0 hL hSh _
 have hval : ∀ (j : Nat) t v, Tryz.f4.params[j]? = some t → args[j]? = some v → Value.okWide Tryz.prog W .any base t v := hval0
 have hW' := hW
 obtain ⟨p, q, hA0, hV, rfl, hfz, hnd⟩ := hW
 have hA : DataW.TrodAll enc Tryz.prog W 0 (fun _ => true) true Tryz.f4.params.toList args.toList ds p := hA0
 rw [Tryz.params4] at hA hval
 obtain ⟨v0, vs0, d0, ds0, p0, q0, hargs, rfl, rfl, h0, r0⟩ := trodAll_cons hA
 obtain ⟨v1, vs1, d1, ds1, p1, q1, rfl, rfl, rfl, h1, r1⟩ := trodAll_cons r0
 obtain ⟨v2, vs2, d2, ds2, p2, q2, rfl, rfl, rfl, h2, r2⟩ := trodAll_cons r1
 obtain ⟨v3, vs3, d3, ds3, p3, q3, rfl, rfl, rfl, h3, r3⟩ := trodAll_cons r2
 obtain ⟨rfl, rfl, rfl⟩ := trodAll_nil r3
 obtain rfl : args = #[v0, v1, v2, v3] := by cases args; simp_all
 obtain ⟨rfl, rfl⟩ := trodVars_none hV
 have k0 := h0
 have lt0 : ∀ x ∈ p0, x.block < W.heap.size := by obtain ⟨m, hm⟩ := k0; exact DataW.trod_lt m _ _ _ hm
 obtain ⟨y0, rfl, rfl, rfl, w0⟩ := open_int Tryz.underlying2 (hval 0 2 v0 rfl rfl) h0
 have k1 := h1
 have lt1 : ∀ x ∈ p1, x.block < W.heap.size := by obtain ⟨m, hm⟩ := k1; exact DataW.trod_lt m _ _ _ hm
 obtain ⟨y1, rfl, rfl, rfl, w1⟩ := open_int Tryz.underlying2 (hval 1 2 v1 rfl rfl) h1
 have k2 := h2
 have lt2 : ∀ x ∈ p2, x.block < W.heap.size := by obtain ⟨m, hm⟩ := k2; exact DataW.trod_lt m _ _ _ hm
 obtain ⟨y2, rfl, rfl, rfl, w2⟩ := open_int Tryz.underlying2 (hval 2 2 v2 rfl rfl) h2
 have k3 := h3
 have lt3 : ∀ x ∈ p3, x.block < W.heap.size := by obtain ⟨m, hm⟩ := k3; exact DataW.trod_lt m _ _ _ hm
 obtain ⟨y3, rfl, rfl, rfl, w3⟩ := open_string Tryz.underlying9 (hval 3 9 v3 rfl rfl) h3
 have hLv := lv_of hL hSh
 clear hA0 hval0 hsz0
 obtain ⟨k, hk⟩ := Pu.lawW y0 y1 y2 y3 w0 w1 w2 w3
 refine (laws_FnExactRetuneText.calls k y0 y1 y2 y3 true W  hLv hk).mono fun e W' ⟨he, bel⟩ => ?_
 subst he
 exact ⟨_, rfl, _, _, _, [], _, [], hW', trodAll_mk1 (shut_bool (show Tryz.prog.underlying 4 = some .bool by kernel_rfl) _), (trodAll_cons_mk (Below.trod laidOut (by kernel_rfl) (of_decide_eq_true (by kernel_rfl)) k0 bel lt0) (trodAll_cons_mk (Below.trod laidOut (by kernel_rfl) (of_decide_eq_true (by kernel_rfl)) k1 bel lt1) (trodAll_cons_mk (Below.trod laidOut (by kernel_rfl) (of_decide_eq_true (by kernel_rfl)) k2 bel lt2) (trodAll_cons_mk (Below.trod laidOut (by kernel_rfl) (of_decide_eq_true (by kernel_rfl)) k3 bel lt3) trodAll_mk0)))), rfl, bel.frame _, fun h => by cases h⟩
theorem over : Rows.fnExactRetuneTextRow.holds Tryz.pinned (OpenSpec.ofChange Rows.fnExactRetuneTextSpec) :=
 OpenClaim.holds_of_wide 4 Tryz.f4 rfl rfl rfl rfl rfl rfl rfl ⟨rfl, rfl, rfl, rfl, rfl⟩ rfl rfl rfl rfl rfl (by kernel_rfl) Tryz.func4 (by kernel_rfl)
  (of_decide_eq_true (by kernel_rfl)) (by unfold Func.isWrapper; first | (rw [if_pos (by decide +kernel)]; kernel_rfl) | (rw [if_neg (by decide +kernel)]; exact ⟨rfl, rfl⟩))
  (fun os started H enc _ => lifted os started H enc)
end Go.Proofs.YtgklofginkafgaaGreatDoor.fnExactRetuneText
namespace Go.Proofs.YtgklofginkafgaaGreatDoor
theorem fnExactRetuneText_row_holds : Rows.FnExactRetuneTextSaid := fnExactRetuneText.over
theorem fnExactRetuneText_card : Rows.FnExactRetuneTextCardSaid :=
 Claim7.holds_tied_plain_at .later [] [.data, .data, .data, .data, .sentinel, .sentinel, .pinned] true (true, "e7aa81c1a089b0204be1eb4ea0a4c5e64149658d08c57b35b7026cd73802c853") true
  fnExactRetuneText_row_holds (fun _ h => by cases h) (by kernel_rfl) (fun _ h => by cases h) fnExactRetuneText_row_tie rfl ⟨rfl, rfl⟩ (by kernel_rfl) rfl
  (fun f fn hf hfn => by
   obtain rfl : f = 4 := Option.some.inj ((show Tryz.prog.funcNamed "loop.example/g01033/laws.FnExactRetuneText" = some 4 by kernel_rfl).symm.trans hf) |>.symm
   obtain rfl : fn = Tryz.f4 := (Option.some.inj (Tryz.func4.symm.trans hfn)).symm
   exact ⟨by kernel_rfl, fun j t ht => by
    rw [Tryz.params4] at ht
    have hm : t ∈ [2, 2, 2, 9] := by simpa using Array.mem_of_getElem? ht
    have hall : ([2, 2, 2, 9].all fun u => !Tryz.prog.wantsStandIn u) = true := by kernel_rfl
    exact (show Tryz.prog.wantsStandIn t = false by simpa using List.all_eq_true.1 hall t hm)⟩)
  (by kernel_rfl)
end Go.Proofs.YtgklofginkafgaaGreatDoor
end
#print axioms Go.Proofs.YtgklofginkafgaaGreatDoor.fnExactRetuneText_card
