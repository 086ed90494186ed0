/- What is proved: fnExactNotesIn_card, without further conditions; this text holds part 4 of 4 of its proof. -/
import Derived.ProofKit
import Derived.LaidMore
import Derived.OpenShut
import Derived.ShutString
import Derived.ChangeOld
import Derived.Below
import Derived.SizedLaws
import Derived.Stop.Joined
import Derived.Lib.LaidTab
import Derived.Deep.Slices
import Derived.Test.YtgklofginkafgaaDoorTie
import Derived.Test.YtgklofginkafgaaDoorCards
import Derived.WalkKit
import Derived.Test.YtgklofginkafgaaDoorQNotesIn2
section
namespace Go.Proofs.YtgklofginkafgaaDoorY
open Go.RowKit Go.ChangeShapes Go.Proofs.YtgklofginkafgaaDoorW.PrintWords
def Opens (P : Program) (w : World) (t : TypeId) {α : Type} (d : Kd α) (wf : α → Prop) : Prop :=
  P.cellsOf t = d.sz ∧ ∀ (H : Type) (enc : TypeId × Value → H) (base : Nat) (sp : Nat → Bool) (held : Bool) (fuel : Nat) (cs : List Value) (x : DataW H × List MemPlace),
    DataW.trod enc P w base sp held fuel t cs = some x → ∃ a, d.K w a cs ∧ wf a
section
variable {P : Program} {w : World}
theorem Opens.int {t : TypeId} {k : IntKind} (ht : P.underlying t = some (.int k)) (hc : P.cellsOf t = 1) : Opens P w t (Kd.int k) (fun n => (Lit.int k n).wf = true) :=
  ⟨hc, fun H enc base sp held fuel cs x h => by
    obtain ⟨n, rfl, _, hw⟩ := DataW.trod_int ht h
    exact ⟨n, rfl, hw⟩⟩
theorem Opens.bool {t : TypeId} (ht : P.underlying t = some .bool) (hc : P.cellsOf t = 1) : Opens P w t Kd.bool (fun _ => True) :=
  ⟨hc, fun H enc base sp held fuel cs x h => by
    obtain ⟨b, rfl, _⟩ := DataW.trod_bool ht h
    exact ⟨b, rfl, trivial⟩⟩
theorem Opens.string {t : TypeId} (ht : P.underlying t = some .string) (hc : P.cellsOf t = 1) : Opens P w t Kd.string (fun s => s.size ≤ 9223372036854775807) :=
  ⟨hc, fun H enc base sp held fuel cs x h => by
    obtain ⟨s, rfl, _, hs⟩ := DataW.trod_string ht h
    exact ⟨s, rfl, hs⟩⟩
theorem choose_list {α : Type} {p : Nat → α → Prop} : ∀ (n : Nat), (∀ i, i < n → ∃ a, p i a) → ∃ l : List α, l.length = n ∧ ∀ i a, l[i]? = some a → p i a
  | 0, _ => ⟨[], rfl, fun i a h => by simp at h⟩
  | n + 1, h => by
    obtain ⟨l, hl, hp⟩ := choose_list n (fun i hi => h i (by omega))
    obtain ⟨a, ha⟩ := h n (by omega)
    refine ⟨l ++ [a], by simp [hl], fun i b hb => ?_⟩
    by_cases hi : i < n
    · rw [List.getElem?_append_left (by omega)] at hb
      exact hp i b hb
    · rw [List.getElem?_append_right (by omega)] at hb
      have h0 : i - l.length = 0 := by
        rcases Nat.eq_zero_or_pos (i - l.length) with h | h
        · exact h
        · rw [List.getElem?_eq_none (by simp; omega)] at hb; cases hb
      rw [h0] at hb
      simp at hb
      subst hb
      have : i = n := by omega
      subst this
      exact ha
theorem Opens.slice {t e : TypeId} {α : Type} {d : Kd α} {wf : α → Prop} (ht : P.underlying t = some (.slice e)) (hc : P.cellsOf t = 1) (o : Opens P w e d wf) :
    Opens P w t (Kd.slice e d) (fun l => l.length ≤ 9223372036854775807 ∧ ∀ a ∈ l, wf a) :=
  ⟨hc, fun H enc base sp held fuel cs x h => by
    rcases Go.Deep.open_slice ht h with ⟨rfl, _⟩ | ⟨a, len, cap, m, n, D, Pl, rfl, _, hl, hm, hmm, _, hx⟩
    · exact ⟨[], ⟨none, 0, rfl, Nat.le_refl _, rfl, by simp, fun h => absurd h (by simp)⟩, by simp, by simp⟩
    · have hle : len ≤ m := by rw [hmm]; split <;> omega
      have hmx : cap ≤ 9223372036854775807 := hm
      obtain ⟨l, hlen, hp⟩ := choose_list (p := fun i y => (∃ c, c.length = d.sz ∧ d.K w y c ∧ ∀ j u, c[j]? = some u → w.cell? (a.add (i * d.sz + j)) = some u) ∧ wf y) len (fun i hi => by
        obtain ⟨cs', h1, h2⟩ := hx i (by omega)
        obtain ⟨y, hK, hw⟩ := o.2 H enc base sp held n cs' _ h2
        obtain ⟨_, hl', hcell⟩ := World.cells?_some h1
        rw [o.1] at hl' hcell
        refine ⟨y, ⟨cs', hl', hK, fun j u hu => ?_⟩, hw⟩
        have hj : j < d.sz := by
          rcases Nat.lt_or_ge j cs'.length with h | h
          · omega
          · rw [List.getElem?_eq_none h] at hu; cases hu
        have := hcell j hj
        rw [add_add] at this
        rw [this, hu])
      refine ⟨l, ⟨some a, cap, by rw [hlen], by omega, ⟨rfl, by omega, fun _ => ⟨a, rfl, fun j y hy => (hp j y hy).1⟩⟩⟩, by omega, fun y hy => ?_⟩
      obtain ⟨i, hi⟩ := List.mem_iff_getElem?.1 hy
      exact (hp i y hi).2⟩
def OpensL (P : Program) (w : World) (fs : List Field) (off : Nat) {α : Type} (d : Kd α) (wf : α → Prop) : Prop :=
  ∀ (H : Type) (enc : TypeId × Value → H) (base : Nat) (sp : Nat → Bool) (held : Bool) (fuel : Nat) (cs : List Value),
    (∀ f ∈ fs, ∃ x, DataW.trod enc P w base sp held fuel f.type ((cs.drop f.offset).take (P.cellsOf f.type)) = some x) → cs.length = off + d.sz → ∃ a, d.K w (a : α) (cs.drop off) ∧ wf a
theorem OpensL.last {f : Field} {off : Nat} {α : Type} {d : Kd α} {wf : α → Prop} (o : Opens P w f.type d wf) (ho : f.offset = off) : OpensL P w [f] off d wf := by
  intro H enc base sp held fuel cs h hl
  obtain ⟨x, hx⟩ := h f (List.mem_singleton.2 rfl)
  rw [o.1, ho, List.take_of_length_le (by simp; omega)] at hx
  exact o.2 _ _ _ _ _ _ _ _ hx
theorem OpensL.cons {f : Field} {fs : List Field} {off : Nat} {α β : Type} {d : Kd α} {e : Kd β} {wf : α → Prop} {wf' : β → Prop} (o : Opens P w f.type d wf) (ho : f.offset = off) (r : OpensL P w fs (off + d.sz) e wf') :
    OpensL P w (f :: fs) off (Kd.pair d e) (fun p => wf p.1 ∧ wf' p.2) := by
  intro H enc base sp held fuel cs h hl
  have hs : (Kd.pair d e).sz = d.sz + e.sz := rfl
  obtain ⟨x, hx⟩ := h f (List.mem_cons_self ..)
  obtain ⟨b, hb, hwb⟩ := r H enc base sp held fuel cs (fun g hg => h g (List.mem_cons_of_mem _ hg)) (by omega)
  rw [o.1, ho] at hx
  obtain ⟨a, ha, hwa⟩ := o.2 _ _ _ _ _ _ _ _ hx
  refine ⟨(a, b), ⟨(cs.drop off).take d.sz, cs.drop (off + d.sz), ?_, ?_, ?_⟩, hwa, hwb⟩
  all_goals first
    | exact ha
    | exact hb
    | (rw [← List.drop_drop, List.take_append_drop])
theorem Opens.struct {t : TypeId} {fs : Array Field} {α β : Type} {d : Kd α} {wf : α → Prop} {f : β → α} (g : α → β) (hg : ∀ a, f (g a) = a) (ht : P.underlying t = some (.struct fs)) (hc : P.cellsOf t = d.sz) (o : OpensL P w fs.toList 0 d wf) :
    Opens P w t (Kd.iso d f) (fun b => wf (f b)) :=
  ⟨hc, fun H enc base sp held fuel cs x h => by
    obtain ⟨xs, n, _, _, hl, hn, hf⟩ := DataW.trod_struct ht h
    obtain ⟨a, ha, hw⟩ := o H enc base sp held n cs (fun f hm => by
      obtain ⟨i, hi⟩ := List.mem_iff_getElem?.1 hm
      have hi' : fs[i]? = some f := by rw [← hi, Array.getElem?_toList]
      have := hf i f hi'
      have hlt : i < xs.length := by
        rcases Nat.lt_or_ge i fs.size with h | h
        · omega
        · rw [Array.getElem?_eq_none h] at hi'; cases hi'
      rw [List.getElem?_eq_getElem hlt] at this
      exact ⟨_, this⟩) (by rw [hl, hc]; omega)
    have e : f (g a) = a := hg a
    exact ⟨g a, by show d.K w (f (g a)) cs; rw [e]; exact ha, by show wf (f (g a)); rw [e]; exact hw⟩⟩
theorem laid_mem {laid : List (String × DataW Unit)} {n : String} {d : DataW Unit} (hm : (n, d) ∈ laid) : ∀ {ps : List MemPlace}, DataW.LaidVars P w laid ps →
    ∃ g t cs fuel p, P.globalNamed n = some g ∧ (P.globals[g]?).map (·.type) = some t ∧ w.var? P n = some cs ∧ DataW.trod (fun _ => ()) P w 0 (fun _ => true) false fuel t cs.toList = some (d, p) := by
  induction laid with
  | nil => cases hm
  | cons a l ih =>
    obtain ⟨m, e⟩ := a
    rintro ps ⟨g, t, cs, fuel, p, q, h1, h2, h3, h4, h5, _⟩
    rcases List.mem_cons.1 hm with h | h
    · cases h
      exact ⟨g, t, cs, fuel, p, h1, h2, h3, h4⟩
    · exact ih h h5
theorem tab_laid {laid : List (String × DataW Unit)} {name : String} {k : IntKind} {zs : List Int} (hm : (name, Lib.tabData k zs) ∈ laid) {g : Nat} {t e : TypeId} {n : Nat}
    (hg : P.globalNamed name = some g) (hty : (P.globals[g]?).map (·.type) = some t) (ht : P.underlying t = some (.array n e)) (he : P.underlying e = some (.int k)) (hce : P.cellsOf e = 1) (hct : P.cellsOf t = n)
    (h : laidMetH P laid w) (hp : (laid.all fun x => x.2.handleName?.isNone) = true) : Lib.TabIs P w name k zs := by
  rw [MakeChecks.laidMetH_plain _ _ _ hp] at h
  obtain ⟨ps, hv, _⟩ := h
  obtain ⟨g', t', cs, fuel, p, hg', ht', hvar, hd⟩ := laid_mem hm hv
  obtain rfl := Option.some.inj (hg.symm.trans hg')
  obtain rfl := Option.some.inj (hty.symm.trans ht')
  unfold Lib.TabIs
  rw [hvar, ← Lib.cells_of_tab ht he hce hct hd]
end
end Go.Proofs.YtgklofginkafgaaDoorY
end
section
namespace Go.Proofs.YtgklofginkafgaaDoor.Pu
set_option linter.unusedSimpArgs false
set_option linter.unusedVariables false
open Go.RowKit Go.Proofs.YtgklofginkafgaaDoorW.PrintWords
theorem wr {x : Int} (h0 : -9223372036854775808 ≤ x) (h1 : x ≤ 9223372036854775807) : wrap64 x = x := by
  unfold wrap64
  omega
theorem Ev_succ {α : Type} {g : Nat → Option α} {r : α} (h : Ev (fun k => g (k + 1)) r) : Ev g r := Ev.step (fun _ => rfl) h
theorem bytes_ext {a b : ByteArray} (h : a.data.toList = b.data.toList) : a = b := by
  cases a
  cases b
  simp only [ByteArray.mk.injEq]
  exact Array.toList_inj.1 h
theorem size_mk (l : List UInt8) : (⟨l.toArray⟩ : ByteArray).size = l.length := by simp [ByteArray.size]
theorem app_mk (a b : List UInt8) : (⟨a.toArray⟩ : ByteArray) ++ ⟨b.toArray⟩ = ⟨(a ++ b).toArray⟩ := by
  apply bytes_ext
  simp
theorem set_copy {α : Type} (l : List α) (z : α) (i d : Nat) (h : i + (d + 1) = l.length) (x : α) (hx : l[i]? = some x) :
    (l.take i ++ List.replicate (d + 1) z).set i x = l.take (i + 1) ++ List.replicate d z := by
  have hlt : i < l.length := by omega
  have hl : (l.take i).length = i := by rw [List.length_take]; omega
  rw [List.set_append_right _ _ (by omega), hl, Nat.sub_self, List.replicate_succ, List.set_cons_zero, List.take_succ_eq_append_getElem hlt]
  rw [List.getElem?_eq_getElem hlt] at hx
  obtain rfl := Option.some.inj hx
  rw [List.append_assoc]
  rfl
end Go.Proofs.YtgklofginkafgaaDoor.Pu
end
section
namespace Go.Proofs.YtgklofginkafgaaDoor.Pu
set_option linter.unusedSimpArgs false
set_option linter.unusedVariables false
open Go.RowKit Go.Proofs.YtgklofginkafgaaDoorW.PrintWords Go.Proofs.YtgklofginkafgaaDoor.PB
theorem l00In_eq (a b c : Int) : spec_l00In.f a b c = some (decide (b ≤ a ∧ a ≤ c)) := by
  unfold spec_l00In.f
  by_cases h : a ≥ b
  · rw [if_pos h]
    simp only [ge_iff_le] at h
    simp [h]
  · rw [if_neg h]
    simp only [ge_iff_le] at h
    simp [h]
theorem within_eq (a b c : Int) : impl_within.f a b c = some (decide (b ≤ a ∧ a ≤ c)) := by
  unfold impl_within.f
  by_cases h : a ≥ b
  · rw [if_pos h]
    simp only [ge_iff_le] at h
    simp [h]
  · rw [if_neg h]
    simp only [ge_iff_le] at h
    simp [h]
end Go.Proofs.YtgklofginkafgaaDoor.Pu
end
section
namespace Go.Proofs.YtgklofginkafgaaDoor.Pu
set_option linter.unusedSimpArgs false
set_option linter.unusedVariables false
open Go.RowKit Go.Proofs.YtgklofginkafgaaDoorW.PrintWords Go.Proofs.YtgklofginkafgaaDoor.PB
theorem join_tail (sep : List UInt8) (a : List UInt8) (r : List (List UInt8)) : Lib.join (a :: r) sep = a ++ r.flatMap fun x => sep ++ x := by
  unfold Lib.join
  induction r generalizing a with
  | nil => simp [List.intercalate]
  | cons b r ih =>
    have h := ih b
    simp only [List.intercalate, List.intersperse_cons_cons, List.flatten_cons] at h ⊢
    rw [h]
    simp
end Go.Proofs.YtgklofginkafgaaDoor.Pu
end
section
namespace Go.Proofs.YtgklofginkafgaaDoor.Pu
set_option linter.unusedSimpArgs false
set_option linter.unusedVariables false
open Go.RowKit Go.Proofs.YtgklofginkafgaaDoorW.PrintWords Go.Proofs.YtgklofginkafgaaDoor.PB
theorem octB_size (o : Int) (h : o = -1 ∨ o = 0 ∨ o = 1) : (octB o).size ≤ 1 := by rcases h with rfl | rfl | rfl <;> decide
theorem markB_size (o : Int) (h : o = -1 ∨ o = 0 ∨ o = 1) : (markB o).size ≤ 1 := by rcases h with rfl | rfl | rfl <;> decide
theorem pitchB_size (s k p : Int) (k0 : 0 ≤ k) (k1 : k ≤ 11) (p0 : -12 ≤ p) (p1 : p ≤ 23) : (pitchB s k p).size ≤ 200 := by
  have a := (letterB_cell ((p + k) % 12) (by omega) (by omega)).1
  have b := decB_size ((p + k) / 12 + 4) (by omega) (by omega)
  have c := (numberB_cell (p % 12) (by omega) (by omega)).1
  have d := decB_size (p + k + 60) (by omega) (by omega)
  have e := toneB_size (p % 12) (by omega) (by omega)
  have f := octB_size (p / 12) (by omega)
  have g := markB_size (p / 12) (by omega)
  unfold pitchB
  split
  · rw [ByteArray.size_append]; omega
  · split
    · rw [ByteArray.size_append]; omega
    · split
      · omega
      · rw [ByteArray.size_append]; omega
def pT (s k p : Int) : List UInt8 := (pitchB s k p).data.toList
theorem pT_mk (s k p : Int) : pitchB s k p = ⟨(pT s k p).toArray⟩ := by
  apply bytes_ext
  simp [pT]
theorem pT_length (s k p : Int) (k0 : 0 ≤ k) (k1 : k ≤ 11) (p0 : -12 ≤ p) (p1 : p ≤ 23) : (pT s k p).length ≤ 200 := by
  have := pitchB_size s k p k0 k1 p0 p1
  rw [pT_mk, size_mk] at this
  exact this
def keyOk (s k : Int) : Bool := decide (1 ≤ s ∧ s ≤ 4) && decide (0 ≤ k ∧ k ≤ 11)
theorem keyOk_wf {s k : Int} (h : keyOk s k = true) : 1 ≤ s ∧ s ≤ 4 ∧ 0 ≤ k ∧ k ≤ 11 := by
  simp only [keyOk, Bool.and_eq_true, decide_eq_true_eq] at h
  exact ⟨h.1.1, h.1.2, h.2.1, h.2.2⟩
theorem l26Script_eq (s k : Int) : spec_l26Script.f s k = some (keyOk s k) := by
  unfold spec_l26Script.f keyOk
  simp only [l00In_eq, Option.bind_some]
  by_cases h : 1 ≤ s ∧ s ≤ 4
  · simp only [decide_eq_true h, if_true, Bool.true_and]
  · simp only [decide_eq_false h, Bool.false_eq_true, if_false, Bool.false_and]
theorem keyOk_eq (s k : Int) : impl_keyOk.f s k = some (keyOk s k) := by
  unfold impl_keyOk.f keyOk
  simp only [within_eq, Option.bind_some]
  by_cases h : 1 ≤ s ∧ s ≤ 4
  · simp only [decide_eq_true h, if_true, Bool.true_and]
  · simp only [decide_eq_false h, Bool.false_eq_true, if_false, Bool.false_and]
theorem sPitch_eq (s k p : Int) (h : keyOk s k = true) (p0 : -12 ≤ p) (p1 : p ≤ 23) : spec_l26Pitch.f s k p = some ⟨(pT s k p).toArray⟩ := by
  obtain ⟨a, b, c, d⟩ := keyOk_wf h
  unfold spec_l26Pitch.f
  rw [if_pos ⟨a, b, c, d, p0, p1⟩, pT_mk]
theorem pitchIn_eq (s k p : Int) (h : keyOk s k = true) (p0 : -12 ≤ p) (p1 : p ≤ 23) : impl_pitchIn.f s k p = some ⟨(pT s k p).toArray⟩ := by
  obtain ⟨a, b, c, d⟩ := keyOk_wf h
  unfold impl_pitchIn.f
  rw [if_pos ⟨c, d, p0, p1⟩, pT_mk]
end Go.Proofs.YtgklofginkafgaaDoor.Pu
end
section
namespace Go.Proofs.YtgklofginkafgaaDoor.Pu
set_option linter.unusedSimpArgs false
set_option linter.unusedVariables false
open Go.RowKit Go.Proofs.YtgklofginkafgaaDoorW.PrintWords Go.Proofs.YtgklofginkafgaaDoor.PB
def cNote (x : S55) : S53 := ⟨x.f0, x.f1⟩
theorem toNoteS_l0 (l : List S55) (hl : l.length ≤ 1048576) (d : Nat) : ∀ i : Nat, i + d = l.length → Ev (fun k => laws_toNoteS.l0 k l ((l.map cNote).take i ++ List.replicate d z53) (i : Int)) (l.map cNote) := by
  induction d with
  | zero =>
    intro i hi
    apply Ev_succ
    simp only [laws_toNoteS.l0, if_neg (show ¬ ((i : Int) < (l.length : Int)) by omega), List.take_of_length_le (show (l.map cNote).length ≤ i by rw [List.length_map]; omega), List.replicate_zero, List.append_nil]
    exact Ev.now _
  | succ d ih =>
    intro i hi
    have hlt : i < l.length := by omega
    have hlen : ((l.map cNote).take i ++ List.replicate (d + 1) z53).length = l.length := by
      rw [List.length_append, List.length_take, List.length_replicate, List.length_map]
      omega
    have hrd : rd_T55 l (i : Int) = l[i] := by simp [rd_T55, List.getD_eq_getElem?_getD, List.getElem?_eq_getElem hlt]
    apply Ev_succ
    simp only [laws_toNoteS.l0, laws_toNote.f, Option.bind_some, hlen, hrd, if_pos (show (i : Int) < (l.length : Int) by omega), if_pos (show 0 ≤ (i : Int) by omega), Int.toNat_natCast, wr (show -9223372036854775808 ≤ (i : Int) + 1 by omega) (by omega)]
    rw [set_copy (l.map cNote) z53 i d (by rw [List.length_map]; exact hi) (⟨l[i].f0, l[i].f1⟩) (by rw [List.getElem?_map, List.getElem?_eq_getElem hlt]; rfl)]
    have h2 := ih (i + 1) (by omega)
    rwa [show ((i + 1 : Nat) : Int) = (i : Int) + 1 by omega] at h2
theorem toNoteS_eq (l : List S55) (hl : l.length ≤ 1048576) : Ev (fun k => laws_toNoteS.f k l) (l.map cNote) := by
  unfold laws_toNoteS.f
  simp only [if_pos (show 0 ≤ (l.length : Int) by omega), Int.toNat_natCast, if_pos (show l.length ≤ 17592186044416 by omega)]
  exact toNoteS_l0 l hl l.length 0 (by omega)
theorem eqNoteS_l0 (l : List S53) (hl : l.length ≤ 1048576) (d : Nat) : ∀ i : Nat, i + d = l.length → Ev (fun k => laws_eqNoteS.l0 k l l (i : Int)) true := by
  induction d with
  | zero =>
    intro i hi
    apply Ev_succ
    simp only [laws_eqNoteS.l0, if_neg (show ¬ ((i : Int) < (l.length : Int)) by omega)]
    exact Ev.now _
  | succ d ih =>
    intro i hi
    apply Ev_succ
    simp only [laws_eqNoteS.l0, laws_eqNote.f, if_pos (show (i : Int) < (l.length : Int) by omega), if_pos (show 0 ≤ (i : Int) by omega), if_true, Option.bind_some, wr (show -9223372036854775808 ≤ (i : Int) + 1 by omega) (by omega)]
    have h2 := ih (i + 1) (by omega)
    rwa [show ((i + 1 : Nat) : Int) = (i : Int) + 1 by omega] at h2
theorem eqNoteS_eq (l : List S53) (hl : l.length ≤ 1048576) : Ev (fun k => laws_eqNoteS.f k l l) true := by
  unfold laws_eqNoteS.f
  simp only [if_true]
  exact eqNoteS_l0 l hl l.length 0 (by omega)
def okNote (x : S53) : Bool := decide (-12 ≤ x.f0 ∧ x.f0 ≤ 23) && decide (1 ≤ x.f1 ∧ x.f1 ≤ 64)
def okMel (l : List S53) : Bool := decide (l.length ≤ 48) && l.all okNote
theorem rdN_mem (l : List S53) (i : Nat) (h : i < l.length) : rd_T53 l (i : Int) = l[i] := by
  simp [rd_T53, List.getD_eq_getElem?_getD, List.getElem?_eq_getElem h]
theorem dropN_rd (l : List S53) (i : Nat) (h : i < l.length) : l.drop i = rd_T53 l (i : Int) :: l.drop (i + 1) := by
  rw [rdN_mem l i h]
  exact List.drop_eq_getElem_cons h
theorem l09Ok_l0 (l : List S53) (hl : l.length ≤ 1048576) (d : Nat) : ∀ i : Nat, i + d = l.length → Ev (fun k => spec_l09Ok.l0 k l (i : Int)) ((l.drop i).all okNote && decide (l.length ≤ 48)) := by
  induction d with
  | zero =>
    intro i hi
    apply Ev_succ
    simp only [spec_l09Ok.l0, if_neg (show ¬ ((i : Int) < (l.length : Int)) by omega), List.drop_of_length_le (show l.length ≤ i by omega), List.all_nil, Bool.true_and]
    rw [show decide ((l.length : Int) ≤ 48) = decide (l.length ≤ 48) by simp; omega]
    exact Ev.now _
  | succ d ih =>
    intro i hi
    have hlt : i < l.length := by omega
    have h2 := ih (i + 1) (by omega)
    rw [show ((i + 1 : Nat) : Int) = (i : Int) + 1 by omega] at h2
    apply Ev_succ
    simp only [spec_l09Ok.l0, spec_l03Pitch.f, spec_l09Length.f, l00In_eq, Option.bind_some, if_pos (show (i : Int) < (l.length : Int) by omega), if_pos (show 0 ≤ (i : Int) by omega), wr (show -9223372036854775808 ≤ (i : Int) + 1 by omega) (by omega)]
    rw [dropN_rd l i hlt, List.all_cons]
    unfold okNote
    by_cases h : -12 ≤ (rd_T53 l (i : Int)).f0 ∧ (rd_T53 l (i : Int)).f0 ≤ 23
    · by_cases h3 : 1 ≤ (rd_T53 l (i : Int)).f1 ∧ (rd_T53 l (i : Int)).f1 ≤ 64
      · simp only [decide_eq_true h, decide_eq_true h3, if_true, Bool.true_and]
        exact h2
      · simp only [decide_eq_true h, decide_eq_false h3, if_true, Bool.false_eq_true, if_false, Bool.false_and, Bool.and_false]
        exact Ev.now _
    · simp only [decide_eq_false h, Bool.false_eq_true, if_false, Bool.false_and]
      exact Ev.now _
theorem l09Ok_eq (l : List S53) (hl : l.length ≤ 1048576) : Ev (fun k => spec_l09Ok.f k l) (okMel l) := by
  unfold spec_l09Ok.f okMel
  rw [Bool.and_comm]
  exact l09Ok_l0 l hl l.length 0 (by omega)
theorem ValidMelody_l0 (l : List S53) (hl : l.length ≤ 1048576) (d : Nat) : ∀ i : Nat, i + d = l.length → Ev (fun k => impl_ValidMelody.l0 k l (l.length : Int) (i : Int)) ((l.drop i).all okNote) := by
  induction d with
  | zero =>
    intro i hi
    apply Ev_succ
    simp only [impl_ValidMelody.l0, if_neg (show ¬ ((i : Int) < (l.length : Int)) by omega), List.drop_of_length_le (show l.length ≤ i by omega), List.all_nil]
    exact Ev.now _
  | succ d ih =>
    intro i hi
    have hlt : i < l.length := by omega
    have h2 := ih (i + 1) (by omega)
    rw [show ((i + 1 : Nat) : Int) = (i : Int) + 1 by omega] at h2
    apply Ev_succ
    simp only [impl_ValidMelody.l0, impl_pitchOk.f, impl_lengthOk.f, within_eq, Option.bind_some, if_pos (show (i : Int) < (l.length : Int) by omega), if_pos (show 0 ≤ (i : Int) by omega), wr (show -9223372036854775808 ≤ (i : Int) + 1 by omega) (by omega)]
    rw [dropN_rd l i hlt, List.all_cons]
    unfold okNote
    by_cases h : -12 ≤ (rd_T53 l (i : Int)).f0 ∧ (rd_T53 l (i : Int)).f0 ≤ 23
    · by_cases h3 : 1 ≤ (rd_T53 l (i : Int)).f1 ∧ (rd_T53 l (i : Int)).f1 ≤ 64
      · simp only [decide_eq_true h, decide_eq_true h3, if_true, Bool.true_and]
        exact h2
      · simp only [decide_eq_true h, decide_eq_false h3, if_true, Bool.false_eq_true, if_false, Bool.false_and, Bool.and_false]
        exact Ev.now _
    · simp only [decide_eq_false h, Bool.false_eq_true, if_false, Bool.false_and]
      exact Ev.now _
theorem ValidMelody_eq (l : List S53) (hl : l.length ≤ 1048576) : Ev (fun k => impl_ValidMelody.f k l) (okMel l) := by
  unfold impl_ValidMelody.f okMel
  by_cases h : l.length ≤ 48
  · simp only [if_neg (show ¬ ((l.length : Int) > 48) by omega), decide_eq_true h, Bool.true_and]
    exact ValidMelody_l0 l hl l.length 0 (by omega)
  · simp only [if_pos (show (l.length : Int) > 48 by omega), decide_eq_false h, Bool.false_and]
    exact Ev.now _
theorem okMel_wf {l : List S53} (h : okMel l = true) : l.length ≤ 48 ∧ ∀ x ∈ l, -12 ≤ x.f0 ∧ x.f0 ≤ 23 ∧ 1 ≤ x.f1 ∧ x.f1 ≤ 64 := by
  simp only [okMel, okNote, Bool.and_eq_true, decide_eq_true_eq, List.all_eq_true] at h
  exact ⟨h.1, fun x hx => by have := h.2 x hx; omega⟩
end Go.Proofs.YtgklofginkafgaaDoor.Pu
end
section
namespace Go.Proofs.YtgklofginkafgaaDoor.Pu
set_option linter.unusedSimpArgs false
set_option linter.unusedVariables false
open Go.RowKit Go.Proofs.YtgklofginkafgaaDoorW.PrintWords Go.Proofs.YtgklofginkafgaaDoor.PB
def revD (u : Nat) : List Int := if h : u = 0 then [] else ((48 + u % 10 : Nat) : Int) :: revD (u / 10)
termination_by u
decreasing_by omega
theorem revD_dec (u : Nat) (h : u ≠ 0) : (revD u).reverse.map (fun n => UInt8.ofNat n.toNat) = Lib.decDigits u := by
  induction u using Nat.strongRecOn with
  | _ u ih =>
    rw [revD, dif_neg h, List.reverse_cons, List.map_append]
    by_cases h1 : u < 10
    · rw [Lib.decDigits, dif_pos h1, show u / 10 = 0 by omega, revD, dif_pos rfl]
      simp only [List.reverse_nil, List.map_nil, List.nil_append, List.map_cons, Int.toNat_natCast]
      rw [show u % 10 = u by omega]
    · rw [Lib.decDigits, dif_neg h1, ih (u / 10) (by omega) (by omega)]
      simp only [List.map_cons, List.map_nil, Int.toNat_natCast]
theorem l01Dec_l1 (xs : List Int) (hx : xs.length ≤ 1000) (n : Nat) : ∀ acc : List Int, acc.length + n ≤ 1000 → n ≤ xs.length → Ev (fun k => spec_l01Dec.l1 k xs acc ((n : Int) - 1)) (strOfNums (acc ++ (xs.take n).reverse)) := by
  induction n with
  | zero =>
    intro acc _ _
    apply Ev_succ
    simp only [spec_l01Dec.l1, if_neg (show ¬ (((0 : Nat) : Int) - 1 ≥ 0) by omega), List.take_zero, List.reverse_nil, List.append_nil]
    exact Ev.now _
  | succ n ih =>
    intro acc ha hn
    apply Ev_succ
    have e : (((n + 1 : Nat) : Int) - 1) = (n : Int) := by omega
    simp only [spec_l01Dec.l1, e, if_pos (show (n : Int) ≥ 0 by omega), if_pos (show 0 ≤ (n : Int) by omega), if_pos (show (n : Int) < (xs.length : Int) by omega), if_pos (show acc.length < 140737488355328 by omega), wr (show -9223372036854775808 ≤ (n : Int) - 1 by omega) (by omega)]
    have h2 := ih (acc ++ [rd xs (n : Int)]) (by rw [List.length_append, List.length_singleton]; omega) (by omega)
    rw [List.append_assoc] at h2
    have h3 : [rd xs (n : Int)] ++ (xs.take n).reverse = (xs.take (n + 1)).reverse := by
      rw [List.take_succ_eq_append_getElem (by omega), List.reverse_append]
      simp [rd, List.getD_eq_getElem?_getD, List.getElem?_eq_getElem (show n < xs.length by omega)]
    rwa [h3] at h2
theorem l01Dec_j1 (xs : List Int) (hx : xs.length ≤ 1000) : Ev (fun k => spec_l01Dec.j1 k xs) (strOfNums xs.reverse) := by
  apply Ev_succ
  simp only [spec_l01Dec.j1, wr (show -9223372036854775808 ≤ (xs.length : Int) - 1 by omega) (by omega)]
  have h := l01Dec_l1 xs hx xs.length [] (by simpa using hx) (Nat.le_refl _)
  simpa using h
theorem tm (u : Nat) : Int.tmod (u : Int) 10 = ((u % 10 : Nat) : Int) := by
  rw [Int.tmod_eq_emod_of_nonneg (by omega)]
  omega
theorem td (u : Nat) : Int.tdiv (u : Int) 10 = ((u / 10 : Nat) : Int) := by
  rw [Int.tdiv_eq_ediv_of_nonneg (by omega)]
  omega
theorem l01Dec_pos (x0 : Int) (h0 : ¬ x0 < 0) (j : Nat) : ∀ (u : Nat) (xs : List Int), u < 10 ^ j → u < 9223372036854775808 → xs.length + j ≤ 900 → Ev (fun k => spec_l01Dec.l0 k x0 xs (u : Int)) (strOfNums (xs ++ revD u).reverse) := by
  induction j with
  | zero =>
    intro u xs hu _ hx
    have : u = 0 := by simpa using hu
    subst this
    apply Ev_succ
    simp only [spec_l01Dec.l0, if_pos (show ((0 : Nat) : Int) = 0 from rfl), if_neg h0]
    rw [revD, dif_pos rfl, List.append_nil]
    exact l01Dec_j1 xs (by omega)
  | succ j ih =>
    intro u xs hu hub hx
    apply Ev_succ
    by_cases hz : u = 0
    · subst hz
      simp only [spec_l01Dec.l0, if_pos (show ((0 : Nat) : Int) = 0 from rfl), if_neg h0]
      rw [revD, dif_pos rfl, List.append_nil]
      exact l01Dec_j1 xs (by omega)
    · have e : (wrap64 (48 + ((u % 10 : Nat) : Int))) % 256 = ((48 + u % 10 : Nat) : Int) := by
        rw [wr (by omega) (by omega)]
        omega
      simp only [spec_l01Dec.l0, if_neg (show ¬ ((u : Int) = 0) by omega), tm, td, if_neg (show ¬ (((u % 10 : Nat) : Int) < 0) by omega), if_pos (show xs.length < 140737488355328 by omega), e, wr (show -9223372036854775808 ≤ ((u / 10 : Nat) : Int) by omega) (by omega)]
      have h2 := ih (u / 10) (xs ++ [((48 + u % 10 : Nat) : Int)]) (by rw [Nat.pow_succ] at hu; omega) (by omega) (by rw [List.length_append, List.length_singleton]; omega)
      rw [List.append_assoc] at h2
      rw [revD, dif_neg hz]
      exact h2
theorem l01Dec_neg (x0 : Int) (h0 : x0 < 0) (j : Nat) : ∀ (u : Nat) (xs : List Int), u < 10 ^ j → u ≤ 9223372036854775808 → xs.length + j ≤ 900 → Ev (fun k => spec_l01Dec.l0 k x0 xs (-(u : Int))) (strOfNums ((xs ++ revD u) ++ [45]).reverse) := by
  induction j with
  | zero =>
    intro u xs hu _ hx
    have : u = 0 := by simpa using hu
    subst this
    apply Ev_succ
    simp only [spec_l01Dec.l0, if_pos (show (-((0 : Nat) : Int)) = 0 from rfl), if_pos h0, if_pos (show xs.length < 140737488355328 by omega)]
    rw [revD, dif_pos rfl, List.append_nil]
    exact l01Dec_j1 (xs ++ [45]) (by rw [List.length_append, List.length_singleton]; omega)
  | succ j ih =>
    intro u xs hu hub hx
    apply Ev_succ
    by_cases hz : u = 0
    · subst hz
      simp only [spec_l01Dec.l0, if_pos (show (-((0 : Nat) : Int)) = 0 from rfl), if_pos h0, if_pos (show xs.length < 140737488355328 by omega)]
      rw [revD, dif_pos rfl, List.append_nil]
      exact l01Dec_j1 (xs ++ [45]) (by rw [List.length_append, List.length_singleton]; omega)
    · have e1 : Int.tmod (-(u : Int)) 10 = -((u % 10 : Nat) : Int) := by rw [Int.neg_tmod, tm]
      have e2 : Int.tdiv (-(u : Int)) 10 = -((u / 10 : Nat) : Int) := by rw [Int.neg_tdiv, td]
      have e : (wrap64 (48 + ((u % 10 : Nat) : Int))) % 256 = ((48 + u % 10 : Nat) : Int) := by
        rw [wr (by omega) (by omega)]
        omega
      have h2 := ih (u / 10) (xs ++ [((48 + u % 10 : Nat) : Int)]) (by rw [Nat.pow_succ] at hu; omega) (by omega) (by rw [List.length_append, List.length_singleton]; omega)
      rw [List.append_assoc xs] at h2
      simp only [spec_l01Dec.l0, if_neg (show ¬ (-(u : Int) = 0) by omega), e1, e2, if_pos (show xs.length < 140737488355328 by omega), wr (show -9223372036854775808 ≤ -((u / 10 : Nat) : Int) by omega) (by omega), Int.neg_neg, wr (show -9223372036854775808 ≤ ((u % 10 : Nat) : Int) by omega) (by omega)]
      rw [revD, dif_neg hz]
      by_cases hm : u % 10 = 0
      · rw [hm] at h2
        simp only [hm, show ¬ (-((0 : Nat) : Int) < 0) by omega, if_false, show (wrap64 (48 + -((0 : Nat) : Int))) % 256 = ((48 + 0 : Nat) : Int) by rw [wr (by omega) (by omega)]; omega]
        exact h2
      · simp only [if_pos (show -((u % 10 : Nat) : Int) < 0 by omega), e]
        exact h2
theorem l01Dec_eq (n : Int) (h1 : -9223372036854775808 ≤ n) (h2 : n ≤ 9223372036854775807) : Ev (fun k => spec_l01Dec.f k n) ⟨(Lib.itoa n).toArray⟩ := by
  unfold spec_l01Dec.f
  by_cases h0 : n = 0
  · subst h0
    simp only [if_pos]
    have : (Lib.itoa 0) = [48] := by decide +kernel
    rw [this]
    exact Ev.now _
  · simp only [if_neg h0]
    by_cases hn : n < 0
    · obtain ⟨u, hu⟩ : ∃ u : Nat, n = -(u : Int) := ⟨n.natAbs, by omega⟩
      have h := l01Dec_neg n hn 20 u [] (by omega) (by omega) (by simp)
      rw [← hu] at h
      have e : strOfNums (([] ++ revD u) ++ [45]).reverse = ⟨(Lib.itoa n).toArray⟩ := by
        apply bytes_ext
        rw [strOfNums_data, List.nil_append, List.reverse_append, List.map_append, revD_dec u (by omega)]
        unfold Lib.itoa
        rw [if_pos hn, show n.natAbs = u by omega]
        rfl
      rwa [e] at h
    · obtain ⟨u, hu⟩ : ∃ u : Nat, n = (u : Int) := ⟨n.natAbs, by omega⟩
      have h := l01Dec_pos n hn 20 u [] (by omega) (by omega) (by simp)
      rw [← hu] at h
      have e : strOfNums ([] ++ revD u).reverse = ⟨(Lib.itoa n).toArray⟩ := by
        apply bytes_ext
        rw [strOfNums_data, List.nil_append, revD_dec u (by omega)]
        unfold Lib.itoa
        rw [if_neg hn, show n.toNat = u by omega]
      rwa [e] at h
theorem decDigits_lt (j : Nat) : ∀ u, u < 10 ^ (j + 1) → (Lib.decDigits u).length ≤ j + 1 := by
  induction j with
  | zero =>
    intro u hu
    rw [Lib.decDigits, dif_pos (by simpa using hu)]
    simp
  | succ j ih =>
    intro u hu
    rw [Lib.decDigits]
    by_cases h : u < 10
    · rw [dif_pos h]
      simp
    · rw [dif_neg h, List.length_append]
      have := ih (u / 10) (by rw [Nat.pow_succ] at hu; omega)
      simp only [List.length_singleton]
      omega
theorem itoa_length (n : Int) (h1 : -9223372036854775808 ≤ n) (h2 : n ≤ 9223372036854775807) : (Lib.itoa n).length ≤ 20 := by
  unfold Lib.itoa
  by_cases hn : n < 0
  · rw [if_pos hn, List.length_cons]
    have := decDigits_lt 18 n.natAbs (by omega)
    omega
  · rw [if_neg hn]
    have := decDigits_lt 18 n.toNat (by omega)
    omega
theorem Decimal_eq (n : Int) (h1 : -9223372036854775808 ≤ n) (h2 : n ≤ 9223372036854775807) : impl_Decimal.f n = some ⟨(Lib.itoa n).toArray⟩ := by
  unfold impl_Decimal.f
  rw [if_pos ⟨h1, h2⟩]
end Go.Proofs.YtgklofginkafgaaDoor.Pu
end
section
namespace Go.Proofs.YtgklofginkafgaaDoor.Pu
set_option linter.unusedSimpArgs false
set_option linter.unusedVariables false
open Go.RowKit Go.Proofs.YtgklofginkafgaaDoorW.PrintWords Go.Proofs.YtgklofginkafgaaDoor.PB
def nT (s k : Int) (x : S53) : List UInt8 := pT s k x.f0 ++ 58 :: Lib.itoa x.f1
def tailN (s k : Int) (l : List S53) : List UInt8 := l.flatMap fun n => 32 :: nT s k n
def notesT (s k : Int) : List S53 → List UInt8
  | [] => []
  | a :: r => nT s k a ++ tailN s k r
theorem join_notes (s k : Int) (l : List S53) : Lib.join (l.map (nT s k)) [32] = notesT s k l := by
  cases l with
  | nil => rfl
  | cons a r =>
    rw [List.map_cons, join_tail]
    simp [notesT, tailN, List.flatMap_map]
theorem nT_length (s k : Int) (k0 : 0 ≤ k) (k1 : k ≤ 11) (x : S53) (h : -12 ≤ x.f0 ∧ x.f0 ≤ 23 ∧ 1 ≤ x.f1 ∧ x.f1 ≤ 64) : (nT s k x).length ≤ 221 := by
  have h1 := pT_length s k x.f0 k0 k1 h.1 h.2.1
  have h2 := itoa_length x.f1 (by omega) (by omega)
  unfold nT
  rw [List.length_append, List.length_cons]
  omega
theorem tailN_length (s k : Int) (k0 : 0 ≤ k) (k1 : k ≤ 11) (l : List S53) (hw : ∀ x ∈ l, -12 ≤ x.f0 ∧ x.f0 ≤ 23 ∧ 1 ≤ x.f1 ∧ x.f1 ≤ 64) : (tailN s k l).length ≤ 222 * l.length := by
  induction l with
  | nil => simp [tailN]
  | cons a r ih =>
    have h1 := nT_length s k k0 k1 a (hw a (by simp))
    have h2 := ih (fun x hx => hw x (by simp [hx]))
    unfold tailN at h2 ⊢
    rw [List.flatMap_cons, List.length_append, List.length_cons, List.length_cons]
    omega
theorem notesT_length (s k : Int) (k0 : 0 ≤ k) (k1 : k ≤ 11) (l : List S53) (hw : ∀ x ∈ l, -12 ≤ x.f0 ∧ x.f0 ≤ 23 ∧ 1 ≤ x.f1 ∧ x.f1 ≤ 64) : (notesT s k l).length ≤ 222 * l.length := by
  cases l with
  | nil => simp [notesT]
  | cons a r =>
    have h1 := nT_length s k k0 k1 a (hw a (by simp))
    have h2 := tailN_length s k k0 k1 r (fun x hx => hw x (by simp [hx]))
    simp only [notesT, List.length_append, List.length_cons]
    omega
theorem l26Notes_l0 (s k0 : Int) (hk : keyOk s k0 = true) (l : List S53) (hl : l.length ≤ 48) (hw : ∀ x ∈ l, -12 ≤ x.f0 ∧ x.f0 ≤ 23 ∧ 1 ≤ x.f1 ∧ x.f1 ≤ 64) (d : Nat) :
    ∀ (i : Nat) (acc : List UInt8), i + d = l.length → 0 < i → acc.length + 222 * d ≤ 1000000000 → Ev (fun k => spec_l26Notes.l0 k s k0 l ⟨acc.toArray⟩ (i : Int)) ⟨(acc ++ tailN s k0 (l.drop i)).toArray⟩ := by
  obtain ⟨_, _, c, e⟩ := keyOk_wf hk
  induction d with
  | zero =>
    intro i acc hi _ _
    apply Ev_succ
    simp only [spec_l26Notes.l0, if_neg (show ¬ ((i : Int) < (l.length : Int)) by omega), show l.drop i = [] from List.drop_of_length_le (by omega)]
    simp only [tailN, List.flatMap_nil, List.append_nil]
    exact Ev.now _
  | succ d ih =>
    intro i acc hi h0 ha
    have hlt : i < l.length := by omega
    have hx := hw (rd_T53 l (i : Int)) (by rw [rdN_mem l i hlt]; exact List.getElem_mem hlt)
    have hs := pT_length s k0 _ c e hx.1 hx.2.1
    have hd := itoa_length (rd_T53 l (i : Int)).f1 (by omega) (by omega)
    have e1 : (⟨acc.toArray⟩ : ByteArray) ++ ⟨#[32]⟩ = ⟨(acc ++ [32]).toArray⟩ := app_mk acc [32]
    have e2 : (⟨(pT s k0 (rd_T53 l (i : Int)).f0).toArray⟩ : ByteArray) ++ ⟨#[58]⟩ = ⟨(pT s k0 (rd_T53 l (i : Int)).f0 ++ [58]).toArray⟩ := app_mk _ [58]
    apply Ev_succ
    simp only [spec_l26Notes.l0, if_pos (show (i : Int) < (l.length : Int) by omega), if_pos (show (i : Int) > 0 by omega), size_mk, if_pos (show acc.length + 1 ≤ 9223372036854775807 by omega), if_pos (show 0 ≤ (i : Int) by omega), e1, wr (show -9223372036854775808 ≤ (i : Int) + 1 by omega) (by omega), sPitch_eq s k0 _ hk hx.1 hx.2.1, Option.bind_some, if_pos (show (pT s k0 (rd_T53 l (i : Int)).f0).length + 1 ≤ 9223372036854775807 by omega), e2]
    refine Ev.bind (l01Dec_eq _ (by omega) (by omega)) ?_
    simp only [size_mk, app_mk, List.length_append, List.length_singleton, if_pos (show (pT s k0 (rd_T53 l (i : Int)).f0).length + 1 + (Lib.itoa (rd_T53 l (i : Int)).f1).length ≤ 9223372036854775807 by omega), if_pos (show acc.length + 1 + ((pT s k0 (rd_T53 l (i : Int)).f0).length + 1 + (Lib.itoa (rd_T53 l (i : Int)).f1).length) ≤ 9223372036854775807 by omega)]
    have h2 := ih (i + 1) ((acc ++ [32]) ++ (pT s k0 (rd_T53 l (i : Int)).f0 ++ [58] ++ Lib.itoa (rd_T53 l (i : Int)).f1)) (by omega) (by omega) (by simp only [List.length_append, List.length_singleton]; omega)
    rw [dropN_rd l i hlt]
    rw [show ((i + 1 : Nat) : Int) = (i : Int) + 1 by omega] at h2
    have e3 : (acc ++ [32]) ++ (pT s k0 (rd_T53 l (i : Int)).f0 ++ [58] ++ Lib.itoa (rd_T53 l (i : Int)).f1) ++ tailN s k0 (l.drop (i + 1)) = acc ++ tailN s k0 (rd_T53 l (i : Int) :: l.drop (i + 1)) := by
      simp [tailN, nT]
    rwa [e3] at h2
theorem l26Notes_eq (s k0 : Int) (hk : keyOk s k0 = true) (l : List S53) (hl : l.length ≤ 48) (hw : ∀ x ∈ l, -12 ≤ x.f0 ∧ x.f0 ≤ 23 ∧ 1 ≤ x.f1 ∧ x.f1 ≤ 64) : Ev (fun k => spec_l26Notes.f k s k0 l) ⟨(notesT s k0 l).toArray⟩ := by
  obtain ⟨_, _, c, e⟩ := keyOk_wf hk
  unfold spec_l26Notes.f
  cases l with
  | nil =>
    apply Ev_succ
    simp only [spec_l26Notes.l0, List.length_nil, if_neg (show ¬ ((0 : Int) < ((0 : Nat) : Int)) by omega)]
    exact Ev.now _
  | cons a r =>
    have hx := hw a (by simp)
    have hs := pT_length s k0 a.f0 c e hx.1 hx.2.1
    have hd := itoa_length a.f1 (by omega) (by omega)
    have hlen : (a :: r).length = r.length + 1 := rfl
    have e2 : (⟨(pT s k0 a.f0).toArray⟩ : ByteArray) ++ ⟨#[58]⟩ = ⟨(pT s k0 a.f0 ++ [58]).toArray⟩ := app_mk _ [58]
    apply Ev_succ
    have e0 : rd_T53 (a :: r) 0 = a := rfl
    simp only [spec_l26Notes.l0, if_pos (show (0 : Int) < ((a :: r).length : Int) by omega), if_neg (show ¬ ((0 : Int) > 0) by omega), if_pos (show (0 : Int) ≤ 0 by omega), e0, wr (show -9223372036854775808 ≤ (0 : Int) + 1 by omega) (by omega), sPitch_eq s k0 _ hk hx.1 hx.2.1, Option.bind_some, size_mk, if_pos (show (pT s k0 a.f0).length + 1 ≤ 9223372036854775807 by omega), e2]
    refine Ev.bind (l01Dec_eq _ (by omega) (by omega)) ?_
    have e1 : (⟨#[]⟩ : ByteArray) = ⟨([] : List UInt8).toArray⟩ := rfl
    simp only [e1, size_mk, app_mk, List.length_append, List.length_singleton, List.length_nil, if_pos (show (pT s k0 a.f0).length + 1 + (Lib.itoa a.f1).length ≤ 9223372036854775807 by omega), if_pos (show 0 + ((pT s k0 a.f0).length + 1 + (Lib.itoa a.f1).length) ≤ 9223372036854775807 by omega), List.nil_append]
    have h := l26Notes_l0 s k0 hk (a :: r) hl hw r.length 1 (pT s k0 a.f0 ++ [58] ++ Lib.itoa a.f1) (by omega) (by omega) (by simp only [List.length_append, List.length_singleton]; omega)
    have e3 : pT s k0 a.f0 ++ [58] ++ Lib.itoa a.f1 ++ tailN s k0 ((a :: r).drop 1) = notesT s k0 (a :: r) := by
      simp [notesT, nT]
    rwa [e3] at h
theorem notesIn_l0 (s k0 : Int) (hk : keyOk s k0 = true) (l : List S53) (hl : l.length ≤ 48) (hw : ∀ x ∈ l, -12 ≤ x.f0 ∧ x.f0 ≤ 23 ∧ 1 ≤ x.f1 ∧ x.f1 ≤ 64) (d : Nat) :
    ∀ i : Nat, i + d = l.length → Ev (fun k => impl_notesIn.l0 k s k0 ((l.take i).map fun n => ⟨(nT s k0 n).toArray⟩) l (l.length : Int) (i : Int)) ⟨(notesT s k0 l).toArray⟩ := by
  obtain ⟨_, _, c, e⟩ := keyOk_wf hk
  induction d with
  | zero =>
    intro i hi
    apply Ev_succ
    simp only [impl_notesIn.l0, if_neg (show ¬ ((i : Int) < (l.length : Int)) by omega), List.take_of_length_le (show l.length ≤ i by omega)]
    have e : Lib.join ((l.map fun n => (⟨(nT s k0 n).toArray⟩ : ByteArray)).map (·.data.toList)) (⟨#[32]⟩ : ByteArray).data.toList = notesT s k0 l := by
      rw [← join_notes, List.map_map]
      rfl
    have hb := notesT_length s k0 (by assumption) (by assumption) l hw
    unfold strings_Join.f
    rw [e]
    simp only [if_pos (show (notesT s k0 l).length ≤ 140737488355328 ∧ (l.map fun n => (⟨(nT s k0 n).toArray⟩ : ByteArray)).length ≤ 140737488355328 from ⟨by omega, by rw [List.length_map]; omega⟩), Option.bind_some]
    exact Ev.now _
  | succ d ih =>
    intro i hi
    have hlt : i < l.length := by omega
    have hx := hw (rd_T53 l (i : Int)) (by rw [rdN_mem l i hlt]; exact List.getElem_mem hlt)
    have hs := pT_length s k0 _ c e hx.1 hx.2.1
    have hd := itoa_length (rd_T53 l (i : Int)).f1 (by omega) (by omega)
    have e2 : (⟨(pT s k0 (rd_T53 l (i : Int)).f0).toArray⟩ : ByteArray) ++ ⟨#[58]⟩ = ⟨(pT s k0 (rd_T53 l (i : Int)).f0 ++ [58]).toArray⟩ := app_mk _ [58]
    apply Ev_succ
    simp only [impl_notesIn.l0, if_pos (show (i : Int) < (l.length : Int) by omega), if_pos (show 0 ≤ (i : Int) by omega), pitchIn_eq s k0 _ hk hx.1 hx.2.1, Decimal_eq (rd_T53 l (i : Int)).f1 (by omega) (by omega), Option.bind_some, wr (show -9223372036854775808 ≤ (i : Int) + 1 by omega) (by omega), size_mk, if_pos (show (pT s k0 (rd_T53 l (i : Int)).f0).length + 1 ≤ 9223372036854775807 by omega), e2, app_mk, List.length_append, List.length_singleton, if_pos (show (pT s k0 (rd_T53 l (i : Int)).f0).length + 1 + (Lib.itoa (rd_T53 l (i : Int)).f1).length ≤ 9223372036854775807 by omega)]
    simp only [if_pos (show ((l.take i).map fun n => (⟨(nT s k0 n).toArray⟩ : ByteArray)).length < 8796093022208 by rw [List.length_map, List.length_take]; omega)]
    have h2 := ih (i + 1) (by omega)
    rw [show ((i + 1 : Nat) : Int) = (i : Int) + 1 by omega, List.take_succ_eq_append_getElem hlt, List.map_append, ← rdN_mem l i hlt] at h2
    have e3 : nT s k0 (rd_T53 l (i : Int)) = pT s k0 (rd_T53 l (i : Int)).f0 ++ [58] ++ Lib.itoa (rd_T53 l (i : Int)).f1 := by simp [nT]
    rw [List.map_singleton, e3] at h2
    exact h2
def notesR (s k0 : Int) (l : List S53) : ByteArray × Int := if keyOk s k0 = true then (if okMel l = true then (⟨(notesT s k0 l).toArray⟩, 0) else (⟨#[]⟩, 1)) else (⟨#[]⟩, 2)
theorem sNotesIn_eq (s k0 : Int) (l : List S53) (hl : l.length ≤ 1048576) : Ev (fun k => spec_NotesIn.f k s k0 l) (notesR s k0 l) := by
  unfold spec_NotesIn.f notesR
  simp only [l26Script_eq, Option.bind_some]
  cases hk : keyOk s k0 with
  | false => simp only [Bool.false_eq_true, if_false]; exact Ev.now _
  | true =>
    simp only [if_true]
    refine Ev.bind (l09Ok_eq l hl) ?_
    cases hm : okMel l with
    | false => simp only [Bool.false_eq_true, if_false]; exact Ev.now _
    | true =>
      obtain ⟨h1, h2⟩ := okMel_wf hm
      simp only [if_true]
      exact Ev.bind (l26Notes_eq s k0 hk l h1 h2) (Ev.now _)
theorem NotesIn_eq (s k0 : Int) (l : List S53) (hl : l.length ≤ 1048576) : Ev (fun k => impl_NotesIn.f k s k0 l) (notesR s k0 l) := by
  unfold impl_NotesIn.f notesR
  simp only [keyOk_eq, Option.bind_some]
  cases hk : keyOk s k0 with
  | false => simp only [Bool.false_eq_true, if_false]; exact Ev.now _
  | true =>
    simp only [if_true]
    refine Ev.bind (ValidMelody_eq l hl) ?_
    cases hm : okMel l with
    | false => simp only [Bool.false_eq_true, if_false]; exact Ev.now _
    | true =>
      obtain ⟨h1, h2⟩ := okMel_wf hm
      have hn : Ev (fun k => impl_notesIn.f k s k0 l) ⟨(notesT s k0 l).toArray⟩ := notesIn_l0 s k0 hk l h1 h2 l.length 0 (by omega)
      simp only [if_true]
      exact Ev.bind hn (Ev.now _)
theorem lawW (s k0 : Int) (l : List S55) (_ : (Lit.int .i64 s).wf = true) (_ : (Lit.int .i64 k0).wf = true) (hl : l.length ≤ 9223372036854775807 ∧ ∀ x ∈ l, (Lit.int .i64 x.f0).wf = true ∧ (Lit.int .i64 x.f1).wf = true) : ∃ n, laws_FnExactNotesIn.f n s k0 l = some true := by
  have hz : Ev (fun n => laws_FnExactNotesIn.f n s k0 l) true := by
    have hl' := hl.1
    unfold laws_FnExactNotesIn.f laws_szNoteS.f
    rw [wr (show -9223372036854775808 ≤ (1048576 : Int) - (l.length : Int) by omega) (by omega)]
    by_cases h1 : (1048576 : Int) - (l.length : Int) < 0
    · simp only [if_pos h1, Option.bind_some, show (-1 : Int) < 0 from by omega, if_true]
      exact Ev.now _
    · simp only [if_neg h1, Option.bind_some]
      have hlen : l.length ≤ 1048576 := by omega
      have hlm : (l.map cNote).length ≤ 1048576 := by rw [List.length_map]; exact hlen
      refine Ev.bind (toNoteS_eq l hlen) ?_
      refine Ev.bind (sNotesIn_eq s k0 _ hlm) ?_
      refine Ev.bind (toNoteS_eq l hlen) ?_
      refine Ev.bind (NotesIn_eq s k0 _ hlm) ?_
      simp only [if_true, bne_self_eq_false]
      apply Ev_succ
      simp only [laws_FnExactNotesIn.j0, Bool.false_eq_true, if_false]
      refine Ev.bind (toNoteS_eq l hlen) ?_
      refine Ev.bind (eqNoteS_eq _ hlm) ?_
      simp only [if_true]
      exact Ev.now _
  exact hz.rounds
end Go.Proofs.YtgklofginkafgaaDoor.Pu
end
section
namespace Go.Proofs.YtgklofginkafgaaDoor.fnExactNotesIn
open Go.ChangeShapes Go.WideShapes Go.ChangeAt Go.RowKit Go.Proofs.YtgklofginkafgaaDoorY Go.Proofs.YtgklofginkafgaaDoorW.PrintWords Go.Proofs.YtgklofginkafgaaDoor.PB
open Go.ChangeMaps (open_string shut_string)
set_option linter.unusedVariables false
theorem own : ownKnob Tryd.prog.godebug = none := by kernel_rfl
theorem laidOut : laidOutB Tryd.prog = true := by kernel_rfl
theorem op55 {w : World} : Opens Tryd.prog w 55 k55 (fun b => ((Lit.int .i64 b.f0).wf = true ∧ (Lit.int .i64 b.f1).wf = true)) := Opens.struct (P := Tryd.prog) (w := w) (f := fun x : S55 => (x.f0, x.f1)) (fun a => S55.mk a.1 a.2) (fun _ => rfl) Tryd.underlying55 (by kernel_rfl) (OpensL.cons (Opens.int (w := w) Tryd.underlying2 (by kernel_rfl)) rfl (OpensL.last (Opens.int (w := w) Tryd.underlying2 (by kernel_rfl)) rfl))
def laid : List (String × DataW Unit) := [("math/bits.deBruijn32tab", Rows.laid_math_bits_deBruijn32tab), ("math/bits.deBruijn64tab", Rows.laid_math_bits_deBruijn64tab), ("internal/strconv.uint64pow10", Rows.laid_internal_strconv_uint64pow10)]
theorem door_met (os : Os) (args : Array Value) : laidMetH Tryd.prog laid ((World.doorLaid Tryd.prog 400 os).forCall (fun _ _ => 0) ⟨#[], args, []⟩).memory :=
  laidMetH_of_parts3 (fuel := 8) (laidMet_of_run' 8 (by kernel_rfl) (by kernel_rfl)) (by kernel_rfl) (by kernel_rfl)
theorem lv_of {W : World} (h : laidMetH Tryd.prog laid W) : Lv W :=
  ⟨tab_laid (zs := Lib.pow10Tab) (n := 20) (by rw [show (Lib.tabData .u64 Lib.pow10Tab : DataW Unit) = Rows.laid_internal_strconv_uint64pow10 by kernel_rfl]; simp [laid]) (show Tryd.prog.globalNamed "internal/strconv.uint64pow10" = some 1 by kernel_rfl) (by kernel_rfl) Tryd.underlying118 Tryd.underlying99 (by kernel_rfl) (by kernel_rfl) h (by kernel_rfl)⟩
set_option maxRecDepth 100000 in
theorem lifted (os : Os) (started : os.Started) (H : Type) (enc : TypeId × Value → H) :
    ReturnsInHanded {} Tryd.checked os 4 .any (fun w args => (Rows.fnExactNotesInSpec.pre enc Tryd.prog Tryd.f4 [] false w args ∧ laidMetH Tryd.prog laid w) ∧ sizedMet enc Tryd.prog Tryd.f4 (OpenSpec.ofChange Rows.fnExactNotesInSpec) false w args)
      (Rows.fnExactNotesInSpec.post enc Tryd.prog Tryd.f4 false true false false) := by
  refine returnsInHanded_of_change_and (C := Tryd.checked) (X := fun w _ => laidMetH Tryd.prog laid w) (fun _ _ _ hh h => h.of_heap hh) own started (by kernel_rfl) Tryd.func4
    (ChangeSpec.witness_shaped (enc := enc) (C := Tryd.checked) (os := os) (X := fun w _ => laidMetH Tryd.prog laid w) false (World.doorLaid Tryd.prog 400 os) #[.int .i64 0, .int .i64 0, .slice none 0 0] 8 rfl (World.shaped_of_RefB (by kernel_rfl) (by kernel_rfl)) (by kernel_rfl) (by kernel_rfl) (by kernel_rfl) (door_met os _)) ?_
  intro W base args ds gs before hval0 hW _ hsz0 hL _
  have hval : ∀ (j : Nat) t v, Tryd.f4.params[j]? = some t → args[j]? = some v → Value.okWide Tryd.prog W .any base t v := hval0
  have hW' := hW
  obtain ⟨p, q, hA0, hV, rfl, hfz, hnd⟩ := hW
  have hA : DataW.TrodAll enc Tryd.prog W 0 (fun _ => true) true Tryd.f4.params.toList args.toList ds p := hA0
  rw [Tryd.params4] at hA hval
  obtain ⟨v0, vs0, d0, ds0, p0, q0, hargs, rfl, rfl, h0, r0⟩ := trodAll_cons hA
  obtain ⟨v1, vs1, d1, ds1, p1, q1, rfl, rfl, rfl, h1, r1⟩ := trodAll_cons r0
  obtain ⟨v2, vs2, d2, ds2, p2, q2, rfl, rfl, rfl, h2, r2⟩ := trodAll_cons r1
  obtain ⟨rfl, rfl, rfl⟩ := trodAll_nil r2
  obtain rfl : args = #[v0, v1, v2] := by cases args; simp_all
  obtain ⟨rfl, rfl⟩ := trodVars_none hV
  have k0 := h0
  have lt0 : ∀ x ∈ p0, x.block < W.heap.size := by obtain ⟨m, hm⟩ := k0; exact DataW.trod_lt m _ _ _ hm
  obtain ⟨y0, rfl, rfl, rfl, w0⟩ := open_int Tryd.underlying2 (hval 0 2 v0 rfl rfl) h0
  have k1 := h1
  have lt1 : ∀ x ∈ p1, x.block < W.heap.size := by obtain ⟨m, hm⟩ := k1; exact DataW.trod_lt m _ _ _ hm
  obtain ⟨y1, rfl, rfl, rfl, w1⟩ := open_int Tryd.underlying2 (hval 1 2 v1 rfl rfl) h1
  have k2 := h2
  have lt2 : ∀ x ∈ p2, x.block < W.heap.size := by obtain ⟨m, hm⟩ := k2; exact DataW.trod_lt m _ _ _ hm
  obtain ⟨a2, len2, cap2, rfl⟩ := okWide_slice Tryd.underlying28 (hval 2 28 v2 rfl rfl)
  obtain ⟨fu2, hf2⟩ := h2
  obtain ⟨y2, ⟨A2, c2, e2, hc2, hr2⟩, w2⟩ := (Opens.slice (w := W) Tryd.underlying28 (by kernel_rfl) (op55 (w := W))).2 _ _ _ _ _ _ _ _ hf2
  simp only [Value.cells, List.cons.injEq, Value.slice.injEq, and_true] at e2
  obtain ⟨rfl, rfl, rfl⟩ := e2
  have hLv := lv_of hL
  clear hA0 hval0 hsz0
  obtain ⟨k, hk⟩ := Pu.lawW y0 y1 y2 w0 w1 w2
  refine (laws_FnExactNotesIn.calls k y0 y1 a2 cap2 y2 true W hr2 hc2 hLv hk).mono fun e W' ⟨he, bel⟩ => ?_
  subst he
  exact ⟨_, rfl, _, _, _, [], _, [], hW', trodAll_mk1 (shut_bool (show Tryd.prog.underlying 4 = some .bool by kernel_rfl) _), (trodAll_cons_mk (Below.trod laidOut (by kernel_rfl) (of_decide_eq_true (by kernel_rfl)) k0 bel lt0) (trodAll_cons_mk (Below.trod laidOut (by kernel_rfl) (of_decide_eq_true (by kernel_rfl)) k1 bel lt1) (trodAll_cons_mk (Below.trod laidOut (by kernel_rfl) (of_decide_eq_true (by kernel_rfl)) k2 bel lt2) trodAll_mk0))), rfl, bel.frame _, fun h => by cases h⟩
theorem over : Rows.fnExactNotesInRow.holds Tryd.pinned (OpenSpec.ofChange Rows.fnExactNotesInSpec) :=
  OpenClaim.holds_of_wide 4 Tryd.f4 rfl rfl rfl rfl rfl rfl rfl ⟨rfl, rfl, rfl, rfl, rfl⟩ rfl rfl rfl rfl rfl (by kernel_rfl) Tryd.func4 (by kernel_rfl)
    (of_decide_eq_true (by kernel_rfl)) (by unfold Func.isWrapper; first | (rw [if_pos (by decide +kernel)]; kernel_rfl) | (rw [if_neg (by decide +kernel)]; exact ⟨rfl, rfl⟩))
    (fun os started H enc _ => lifted os started H enc)
end Go.Proofs.YtgklofginkafgaaDoor.fnExactNotesIn
namespace Go.Proofs.YtgklofginkafgaaDoor
theorem fnExactNotesIn_row_holds : Rows.FnExactNotesInSaid := fnExactNotesIn.over
theorem fnExactNotesIn_card : Rows.FnExactNotesInCardSaid :=
  Claim7.holds_tied_plain_at .later [] [.data, .data, .data] true (true, "97962af99bc47b41f161666163af6fcbaec8c8056be58839a889ab712b302c6b") true
    fnExactNotesIn_row_holds (fun _ h => by cases h) (by kernel_rfl) (fun _ h => by cases h) fnExactNotesIn_row_tie rfl ⟨rfl, rfl⟩ (by kernel_rfl) rfl
    (fun f fn hf hfn => by
      obtain rfl : f = 4 := Option.some.inj ((show Tryd.prog.funcNamed "loop.example/g01033/laws.FnExactNotesIn" = some 4 by kernel_rfl).symm.trans hf) |>.symm
      obtain rfl : fn = Tryd.f4 := (Option.some.inj (Tryd.func4.symm.trans hfn)).symm
      exact ⟨by kernel_rfl, fun j t ht => by
        rw [Tryd.params4] at ht
        have hm : t ∈ [2, 2, 28] := by simpa using Array.mem_of_getElem? ht
        have hall : ([2, 2, 28].all fun u => !Tryd.prog.wantsStandIn u) = true := by kernel_rfl
        exact (show Tryd.prog.wantsStandIn t = false by simpa using List.all_eq_true.1 hall t hm)⟩)
    (by kernel_rfl)
end Go.Proofs.YtgklofginkafgaaDoor
end
#print axioms Go.Proofs.YtgklofginkafgaaDoor.fnExactNotesIn_card
