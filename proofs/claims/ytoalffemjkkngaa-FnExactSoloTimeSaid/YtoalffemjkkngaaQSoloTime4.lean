/- What is proved: fnExactSoloTime_row_holds, without further conditions; this text holds part 5 of 5 of its proof. -/
import Derived.ProofKit
import Derived.LaidMore
import Derived.OpenShut
import Derived.ShutString
import Derived.ChangeOld
import Derived.Below
import Derived.SizedLaws
import Derived.Stop.Joined
import Derived.Lib.LaidTab
import Derived.Deep.Slices
import Derived.Shelf.Vars
import Derived.Test.YtoalffemjkkngaaRows
import Derived.WalkKit
import Derived.Lay
import Derived.Test.YtoalffemjkkngaaQSoloTime3
section
namespace Go.Proofs.YtoalffemjkkngaaY
open Go.RowKit Go.ChangeShapes Go.Proofs.YtoalffemjkkngaaW.PrintWords
def Opens (P : Program) (w : World) (t : TypeId) {α : Type} (d : Kd α) (wf : α → Prop) : Prop :=
 P.cellsOf t = d.sz ∧ ∀ (H : Type) (enc : TypeId × Value → H) (base : Nat) (sp : Nat → Bool) (held : Bool) (fuel : Nat) (cs : List Value) (x : DataW H × List MemPlace),
  DataW.trod enc P w base sp held fuel t cs = some x → ∃ a, d.K w a cs ∧ wf a
section
variable {P : Program} {w : World}
theorem Opens.int {t : TypeId} {k : IntKind} (ht : P.underlying t = some (.int k)) (hc : P.cellsOf t = 1) : Opens P w t (Kd.int k) (fun n => (Lit.int k n).wf = true) :=
 ⟨hc, fun H enc base sp held fuel cs x h => by
  obtain ⟨n, rfl, _, hw⟩ := DataW.trod_int ht h
  exact ⟨n, rfl, hw⟩⟩
theorem Opens.bool {t : TypeId} (ht : P.underlying t = some .bool) (hc : P.cellsOf t = 1) : Opens P w t Kd.bool (fun _ => True) :=
 ⟨hc, fun H enc base sp held fuel cs x h => by
  obtain ⟨b, rfl, _⟩ := DataW.trod_bool ht h
  exact ⟨b, rfl, trivial⟩⟩
theorem Opens.string {t : TypeId} (ht : P.underlying t = some .string) (hc : P.cellsOf t = 1) : Opens P w t Kd.string (fun s => s.size ≤ 9223372036854775807) :=
 ⟨hc, fun H enc base sp held fuel cs x h => by
  obtain ⟨s, rfl, _, hs⟩ := DataW.trod_string ht h
  exact ⟨s, rfl, hs⟩⟩
theorem choose_list {α : Type} {p : Nat → α → Prop} : ∀ (n : Nat), (∀ i, i < n → ∃ a, p i a) → ∃ l : List α, l.length = n ∧ ∀ i a, l[i]? = some a → p i a
 | 0, _ => ⟨[], rfl, fun i a h => by simp at h⟩
 | n + 1, h => by
  obtain ⟨l, hl, hp⟩ := choose_list n (fun i hi => h i (by omega))
  obtain ⟨a, ha⟩ := h n (by omega)
  refine ⟨l ++ [a], by simp [hl], fun i b hb => ?_⟩
  by_cases hi : i < n
  ·rw [List.getElem?_append_left (by omega)] at hb
   exact hp i b hb
  ·rw [List.getElem?_append_right (by omega)] at hb
   have h0 : i - l.length = 0 := by
    rcases Nat.eq_zero_or_pos (i - l.length) with h | h
    ·exact h
    ·rw [List.getElem?_eq_none (by simp; omega)] at hb; cases hb
   rw [h0] at hb
   simp at hb
   subst hb
   have : i = n := by omega
   subst this
   exact ha
theorem Opens.slice {t e : TypeId} {α : Type} {d : Kd α} {wf : α → Prop} (ht : P.underlying t = some (.slice e)) (hc : P.cellsOf t = 1) (o : Opens P w e d wf) :
  Opens P w t (Kd.slice e d) (fun l => l.length ≤ 9223372036854775807 ∧ ∀ a ∈ l, wf a) :=
 ⟨hc, fun H enc base sp held fuel cs x h => by
  rcases Go.Deep.open_slice ht h with ⟨rfl, _⟩ | ⟨a, len, cap, m, n, D, Pl, rfl, _, hl, hm, hmm, _, hx⟩
  ·exact ⟨[], ⟨none, 0, rfl, Nat.le_refl _, rfl, by simp, fun h => absurd h (by simp)⟩, by simp, by simp⟩
  ·have hle : len ≤ m := by rw [hmm]; split <;> omega
   have hmx : cap ≤ 9223372036854775807 := hm
   obtain ⟨l, hlen, hp⟩ := choose_list (p := fun i y => (∃ c, c.length = d.sz ∧ d.K w y c ∧ ∀ j u, c[j]? = some u → w.cell? (a.add (i * d.sz + j)) = some u) ∧ wf y) len (fun i hi => by
    obtain ⟨cs', h1, h2⟩ := hx i (by omega)
    obtain ⟨y, hK, hw⟩ := o.2 H enc base sp held n cs' _ h2
    obtain ⟨_, hl', hcell⟩ := World.cells?_some h1
    rw [o.1] at hl' hcell
    refine ⟨y, ⟨cs', hl', hK, fun j u hu => ?_⟩, hw⟩
    have hj : j < d.sz := by
     rcases Nat.lt_or_ge j cs'.length with h | h
     ·omega
     ·rw [List.getElem?_eq_none h] at hu; cases hu
    have := hcell j hj
    rw [add_add] at this
    rw [this, hu])
   refine ⟨l, ⟨some a, cap, by rw [hlen], by omega, ⟨rfl, by omega, fun _ => ⟨a, rfl, fun j y hy => (hp j y hy).1⟩⟩⟩, by omega, fun y hy => ?_⟩
   obtain ⟨i, hi⟩ := List.mem_iff_getElem?.1 hy
   exact (hp i y hi).2⟩
def OpensL (P : Program) (w : World) (fs : List Field) (off : Nat) {α : Type} (d : Kd α) (wf : α → Prop) : Prop :=
 ∀ (H : Type) (enc : TypeId × Value → H) (base : Nat) (sp : Nat → Bool) (held : Bool) (fuel : Nat) (cs : List Value),
  (∀ f ∈ fs, ∃ x, DataW.trod enc P w base sp held fuel f.type ((cs.drop f.offset).take (P.cellsOf f.type)) = some x) → cs.length = off + d.sz → ∃ a, d.K w (a : α) (cs.drop off) ∧ wf a
theorem OpensL.last {f : Field} {off : Nat} {α : Type} {d : Kd α} {wf : α → Prop} (o : Opens P w f.type d wf) (ho : f.offset = off) : OpensL P w [f] off d wf := by
 intro H enc base sp held fuel cs h hl
 obtain ⟨x, hx⟩ := h f (List.mem_singleton.2 rfl)
 rw [o.1, ho, List.take_of_length_le (by simp; omega)] at hx
 exact o.2 _ _ _ _ _ _ _ _ hx
theorem OpensL.cons {f : Field} {fs : List Field} {off : Nat} {α β : Type} {d : Kd α} {e : Kd β} {wf : α → Prop} {wf' : β → Prop} (o : Opens P w f.type d wf) (ho : f.offset = off) (r : OpensL P w fs (off + d.sz) e wf') :
  OpensL P w (f :: fs) off (Kd.pair d e) (fun p => wf p.1 ∧ wf' p.2) := by
 intro H enc base sp held fuel cs h hl
 have hs : (Kd.pair d e).sz = d.sz + e.sz := rfl
 obtain ⟨x, hx⟩ := h f (List.mem_cons_self ..)
 obtain ⟨b, hb, hwb⟩ := r H enc base sp held fuel cs (fun g hg => h g (List.mem_cons_of_mem _ hg)) (by omega)
 rw [o.1, ho] at hx
 obtain ⟨a, ha, hwa⟩ := o.2 _ _ _ _ _ _ _ _ hx
 refine ⟨(a, b), ⟨(cs.drop off).take d.sz, cs.drop (off + d.sz), ?_, ?_, ?_⟩, hwa, hwb⟩
 all_goals first
  | exact ha
  | exact hb
  | (rw [← List.drop_drop, List.take_append_drop])
theorem Opens.struct {t : TypeId} {fs : Array Field} {α β : Type} {d : Kd α} {wf : α → Prop} {f : β → α} (g : α → β) (hg : ∀ a, f (g a) = a) (ht : P.underlying t = some (.struct fs)) (hc : P.cellsOf t = d.sz) (o : OpensL P w fs.toList 0 d wf) :
  Opens P w t (Kd.iso d f) (fun b => wf (f b)) :=
 ⟨hc, fun H enc base sp held fuel cs x h => by
  obtain ⟨xs, n, _, _, hl, hn, hf⟩ := DataW.trod_struct ht h
  obtain ⟨a, ha, hw⟩ := o H enc base sp held n cs (fun f hm => by
   obtain ⟨i, hi⟩ := List.mem_iff_getElem?.1 hm
   have hi' : fs[i]? = some f := by rw [← hi, Array.getElem?_toList]
   have := hf i f hi'
   have hlt : i < xs.length := by
    rcases Nat.lt_or_ge i fs.size with h | h
    ·omega
    ·rw [Array.getElem?_eq_none h] at hi'; cases hi'
   rw [List.getElem?_eq_getElem hlt] at this
   exact ⟨_, this⟩) (by rw [hl, hc]; omega)
  have e : f (g a) = a := hg a
  exact ⟨g a, by show d.K w (f (g a)) cs; rw [e]; exact ha, by show wf (f (g a)); rw [e]; exact hw⟩⟩
end
end Go.Proofs.YtoalffemjkkngaaY
end
section
namespace Go.Proofs.Ytoalffemjkkngaa.Pu
set_option linter.unusedSimpArgs false
set_option linter.unusedVariables false
open Go.RowKit Go.Proofs.YtoalffemjkkngaaW.PrintWords
theorem wr {x : Int} (h0 : -9223372036854775808 ≤ x) (h1 : x ≤ 9223372036854775807) : wrap64 x = x := by
 unfold wrap64
 omega
theorem Ev_succ {α : Type} {g : Nat → Option α} {r : α} (h : Ev (fun k => g (k + 1)) r) : Ev g r := Ev.step (fun _ => rfl) h
theorem Ev_ite {α : Type} {c : Prop} [Decidable c] {a b : Nat → Option α} {r : α} (h1 : c → Ev a r) (h2 : ¬ c → Ev b r) : Ev (fun k => if c then a k else b k) r := by
 by_cases hc : c
 ·simp only [if_pos hc]
  exact h1 hc
 ·simp only [if_neg hc]
  exact h2 hc
theorem Go_Ev_cast {α : Type} {g : Nat → Option α} {r r' : α} (h : Ev g r) (e : r = r') : Ev g r' := e ▸ h
theorem bytes_ext {a b : ByteArray} (h : a.data.toList = b.data.toList) : a = b := by
 cases a
 cases b
 simp only [ByteArray.mk.injEq]
 exact Array.toList_inj.1 h
theorem size_toList (s : ByteArray) : s.size = s.data.toList.length := by rw [Array.length_toList]; rfl
def allFrom (p : Int → Bool) (s : ByteArray) : Nat → Nat → Bool
 | _, 0 => true
 | i, d + 1 => p (bt s i) && allFrom p s (i + 1) d
theorem toList_data (s : ByteArray) : s.toList = s.data.toList := ByteArray.toList_eq s
theorem toList_nil_iff (s : ByteArray) : s.toList = ([] : List UInt8) ↔ s.size = 0 := by
 rw [toList_data, size_toList, List.length_eq_zero_iff]
theorem set_copy {α : Type} (l : List α) (z : α) (i d : Nat) (h : i + (d + 1) = l.length) (x : α) (hx : l[i]? = some x) :
  (l.take i ++ List.replicate (d + 1) z).set i x = l.take (i + 1) ++ List.replicate d z := by
 have hlt : i < l.length := by omega
 have hl : (l.take i).length = i := by rw [List.length_take]; omega
 rw [List.set_append_right _ _ (by omega), hl, Nat.sub_self, List.replicate_succ, List.set_cons_zero, List.take_succ_eq_append_getElem hlt]
 rw [List.getElem?_eq_getElem hlt] at hx
 obtain rfl := Option.some.inj hx
 rw [List.append_assoc]
 rfl
end Go.Proofs.Ytoalffemjkkngaa.Pu
end
section
namespace Go.Proofs.Ytoalffemjkkngaa.Pu
set_option linter.unusedSimpArgs false
set_option linter.unusedVariables false
open Go.RowKit Go.Proofs.YtoalffemjkkngaaW.PrintWords Go.Proofs.Ytoalffemjkkngaa.PA
def cTurn (x : S42) : S53 := ⟨x.f0, x.f1, x.f2⟩
theorem szTurnS_l0 (l : List S42) (hl : l.length ≤ 1048576) (hn : ∀ x ∈ l, x.f0.size ≤ 9223372036854775807) (d : Nat) :
  ∀ (i : Nat) (left : Int), i + d = l.length → 0 ≤ left → left ≤ 1048576 → ∃ r, Ev (fun k => laws_szTurnS.l0 k l left (i : Int)) r ∧ r ≤ left ∧ (0 ≤ r → ∀ x ∈ l.drop i, x.f0.size ≤ 1048576) := by
 induction d with
 | zero =>
  intro i left hi h0 h1
  refine ⟨left, ?_, Int.le_refl _, fun _ x hx => ?_⟩
  ·apply Ev_succ
   simp only [laws_szTurnS.l0, if_neg (show ¬ ((i : Int) < (l.length : Int)) by omega)]
   exact Ev.now _
  ·rw [List.drop_of_length_le (by omega)] at hx
   cases hx
 | succ d ih =>
  intro i left hi h0 h1
  have hlt : i < l.length := by omega
  have hrd : rd_T42 l (i : Int) = l[i] := by simp [rd_T42, List.getD_eq_getElem?_getD, List.getElem?_eq_getElem hlt]
  have hs := hn l[i] (List.getElem_mem hlt)
  by_cases hb : left - (l[i].f0.size : Int) < 0
  ·refine ⟨-1, ?_, by omega, fun h => absurd h (by omega)⟩
   apply Ev_succ
   simp only [laws_szTurnS.l0, laws_szTurn.f, hrd, if_pos (show (i : Int) < (l.length : Int) by omega), if_pos (show 0 ≤ (i : Int) by omega), wr (show -9223372036854775808 ≤ left - (l[i].f0.size : Int) by omega) (by omega), if_pos hb, Option.bind_some, if_pos (show (-1 : Int) < 0 by omega)]
   exact Ev.now _
  ·obtain ⟨r, hr, hle, hw⟩ := ih (i + 1) (left - (l[i].f0.size : Int)) (by omega) (by omega) (by omega)
   refine ⟨r, ?_, by omega, fun h x hx => ?_⟩
   ·apply Ev_succ
    simp only [laws_szTurnS.l0, laws_szTurn.f, hrd, if_pos (show (i : Int) < (l.length : Int) by omega), if_pos (show 0 ≤ (i : Int) by omega), wr (show -9223372036854775808 ≤ left - (l[i].f0.size : Int) by omega) (by omega), if_neg hb, Option.bind_some, wr (show -9223372036854775808 ≤ (i : Int) + 1 by omega) (by omega)]
    rwa [show ((i + 1 : Nat) : Int) = (i : Int) + 1 by omega] at hr
   ·rw [List.drop_eq_getElem_cons hlt] at hx
    rcases List.mem_cons.1 hx with rfl | hx
    ·omega
    ·exact hw h x hx
theorem szTurnS_eq (l : List S42) (hl : l.length ≤ 9223372036854775807) (hn : ∀ x ∈ l, x.f0.size ≤ 9223372036854775807) (left : Int) (h0 : 0 ≤ left) (h1 : left ≤ 1048576) :
  ∃ r, Ev (fun k => laws_szTurnS.f k l left) r ∧ r ≤ left ∧ (0 ≤ r → l.length ≤ 1048576 ∧ ∀ x ∈ l, x.f0.size ≤ 1048576) := by
 unfold laws_szTurnS.f
 rw [wr (show -9223372036854775808 ≤ left - (l.length : Int) by omega) (by omega)]
 by_cases hb : left - (l.length : Int) < 0
 ·refine ⟨-1, ?_, by omega, fun h => absurd h (by omega)⟩
  simp only [if_pos hb]
  exact Ev.now _
 ·obtain ⟨r, hr, hle, hw⟩ := szTurnS_l0 l (by omega) hn l.length 0 (left - (l.length : Int)) (by omega) (by omega) (by omega)
  refine ⟨r, ?_, by omega, fun h => ⟨by omega, fun x hx => hw h x (by simpa using hx)⟩⟩
  simp only [if_neg hb]
  exact hr
theorem toTurnS_l0 (l : List S42) (hl : l.length ≤ 1048576) (d : Nat) : ∀ i : Nat, i + d = l.length → Ev (fun k => laws_toTurnS.l0 k l ((l.map cTurn).take i ++ List.replicate d z53) (i : Int)) (l.map cTurn) := by
 induction d with
 | zero =>
  intro i hi
  apply Ev_succ
  simp only [laws_toTurnS.l0, if_neg (show ¬ ((i : Int) < (l.length : Int)) by omega), List.take_of_length_le (show (l.map cTurn).length ≤ i by rw [List.length_map]; omega), List.replicate_zero, List.append_nil]
  exact Ev.now _
 | succ d ih =>
  intro i hi
  have hlt : i < l.length := by omega
  have hlen : ((l.map cTurn).take i ++ List.replicate (d + 1) z53).length = l.length := by
   rw [List.length_append, List.length_take, List.length_replicate, List.length_map]
   omega
  have hrd : rd_T42 l (i : Int) = l[i] := by simp [rd_T42, List.getD_eq_getElem?_getD, List.getElem?_eq_getElem hlt]
  apply Ev_succ
  simp only [laws_toTurnS.l0, laws_toTurn.f, Option.bind_some, hlen, hrd, if_pos (show (i : Int) < (l.length : Int) by omega), if_pos (show 0 ≤ (i : Int) by omega), Int.toNat_natCast, wr (show -9223372036854775808 ≤ (i : Int) + 1 by omega) (by omega)]
  rw [set_copy (l.map cTurn) z53 i d (by rw [List.length_map]; exact hi) (⟨l[i].f0, l[i].f1, l[i].f2⟩) (by rw [List.getElem?_map, List.getElem?_eq_getElem hlt]; rfl)]
  have h2 := ih (i + 1) (by omega)
  rwa [show ((i + 1 : Nat) : Int) = (i : Int) + 1 by omega] at h2
theorem toTurnS_eq (l : List S42) (hl : l.length ≤ 1048576) : Ev (fun k => laws_toTurnS.f k l) (l.map cTurn) := by
 unfold laws_toTurnS.f
 simp only [if_pos (show 0 ≤ (l.length : Int) by omega), Int.toNat_natCast, if_pos (show l.length ≤ 8796093022208 by omega)]
 exact toTurnS_l0 l hl l.length 0 (by omega)
theorem eqTurnS_l0 (l : List S53) (hl : l.length ≤ 1048576) (d : Nat) : ∀ i : Nat, i + d = l.length → Ev (fun k => laws_eqTurnS.l0 k l l (i : Int)) true := by
 induction d with
 | zero =>
  intro i hi
  apply Ev_succ
  simp only [laws_eqTurnS.l0, if_neg (show ¬ ((i : Int) < (l.length : Int)) by omega)]
  exact Ev.now _
 | succ d ih =>
  intro i hi
  apply Ev_succ
  simp only [laws_eqTurnS.l0, laws_eqTurn.f, if_pos (show (i : Int) < (l.length : Int) by omega), if_pos (show 0 ≤ (i : Int) by omega), if_true, Option.bind_some, wr (show -9223372036854775808 ≤ (i : Int) + 1 by omega) (by omega)]
  have h2 := ih (i + 1) (by omega)
  rwa [show ((i + 1 : Nat) : Int) = (i : Int) + 1 by omega] at h2
theorem eqTurnS_eq (l : List S53) (hl : l.length ≤ 1048576) : Ev (fun k => laws_eqTurnS.f k l l) true := by
 unfold laws_eqTurnS.f
 simp only [if_true]
 exact eqTurnS_l0 l hl l.length 0 (by omega)
end Go.Proofs.Ytoalffemjkkngaa.Pu
end
section
namespace Go.Proofs.Ytoalffemjkkngaa.Pu
set_option linter.unusedSimpArgs false
set_option linter.unusedVariables false
open Go.RowKit Go.Proofs.YtoalffemjkkngaaW.PrintWords Go.Proofs.Ytoalffemjkkngaa.PA
theorem l00In_eq (a b c : Int) : spec_l00In.f a b c = some (decide (b ≤ a ∧ a ≤ c)) := by
 unfold spec_l00In.f
 by_cases h : a ≥ b
 ·rw [if_pos h]
  simp only [ge_iff_le] at h
  simp [h]
 ·rw [if_neg h]
  simp only [ge_iff_le] at h
  simp [h]
theorem within_eq (a b c : Int) : impl_within.f a b c = some (decide (b ≤ a ∧ a ≤ c)) := by
 unfold impl_within.f
 by_cases h : a ≥ b
 ·rw [if_pos h]
  simp only [ge_iff_le] at h
  simp [h]
 ·rw [if_neg h]
  simp only [ge_iff_le] at h
  simp [h]
end Go.Proofs.Ytoalffemjkkngaa.Pu
end
section
namespace Go.Proofs.Ytoalffemjkkngaa.Pu
set_option linter.unusedSimpArgs false
set_option linter.unusedVariables false
open Go.RowKit Go.Proofs.YtoalffemjkkngaaW.PrintWords Go.Proofs.Ytoalffemjkkngaa.PA
theorem digit_eq (c : Int) : spec_l01Digit.f c = some (decide (48 ≤ c ∧ c ≤ 57)) := by
 unfold spec_l01Digit.f
 by_cases h : c ≥ 48
 ·rw [if_pos h]
  simp only [ge_iff_le] at h
  simp [h]
 ·rw [if_neg h]
  simp only [ge_iff_le] at h
  simp [h]
end Go.Proofs.Ytoalffemjkkngaa.Pu
end
section
namespace Go.Proofs.Ytoalffemjkkngaa.Pu
set_option linter.unusedSimpArgs false
set_option linter.unusedVariables false
open Go.RowKit Go.Proofs.YtoalffemjkkngaaW.PrintWords Go.Proofs.Ytoalffemjkkngaa.PA
def nmC (c : Int) : Bool := decide (97 ≤ c ∧ c ≤ 122) || decide (48 ≤ c ∧ c ≤ 57)
def isNm (s : ByteArray) : Bool := decide (1 ≤ s.size ∧ s.size ≤ 10) && (decide (97 ≤ bt s 0 ∧ bt s 0 ≤ 122) && allFrom nmC s 0 s.size)
theorem small_eq (c : Int) : spec_l01Small.f c = some (decide (97 ≤ c ∧ c ≤ 122)) := by
 unfold spec_l01Small.f
 by_cases h : c ≥ 97
 ·rw [if_pos h]
  simp only [ge_iff_le] at h
  simp [h]
 ·rw [if_neg h]
  simp only [ge_iff_le] at h
  simp [h]
theorem l01Name_l0 (s : ByteArray) (hs : s.size ≤ 9223372036854775806) (d : Nat) : ∀ i : Nat, i + d = s.size → Ev (fun k => spec_l01Name.l0 k s (i : Int)) (allFrom nmC s i d) := by
 induction d with
 | zero =>
  intro i hi
  apply Ev_succ
  simp only [spec_l01Name.l0, if_neg (show ¬ ((i : Int) < (s.size : Int)) by omega)]
  exact Ev.now _
 | succ d ih =>
  intro i hi
  apply Ev_succ
  simp only [spec_l01Name.l0, if_pos (show (i : Int) < (s.size : Int) by omega), if_pos (show 0 ≤ (i : Int) by omega), small_eq, digit_eq, Option.bind_some, wr (show -9223372036854775808 ≤ (i : Int) + 1 by omega) (by omega)]
  have h2 := ih (i + 1) (by omega)
  rw [show ((i + 1 : Nat) : Int) = (i : Int) + 1 by omega] at h2
  unfold allFrom nmC
  by_cases h1 : 97 ≤ bt s (i : Int) ∧ bt s (i : Int) ≤ 122
  ·simp only [h1, decide_true, Bool.true_or, Bool.true_and, if_true]
   exact h2
  ·by_cases h3 : 48 ≤ bt s (i : Int) ∧ bt s (i : Int) ≤ 57
   ·simp only [h1, h3, decide_true, decide_false, Bool.or_true, Bool.true_and, if_true, Bool.false_eq_true, if_false]
    exact h2
   ·simp only [h1, h3, decide_false, Bool.or_self, Bool.false_and, Bool.false_eq_true, if_false]
    exact Ev.now _
theorem l01Name_eq (s : ByteArray) (hs : s.size ≤ 9223372036854775806) : Ev (fun k => spec_l01Name.f k s) (isNm s) := by
 have hl := l01Name_l0 s hs s.size 0 (by omega)
 have hj : Ev (fun k => spec_l01Name.j0 k s true) false := by
  apply Ev_succ
  simp only [spec_l01Name.j0, if_true]
  exact Ev.now _
 unfold spec_l01Name.f isNm
 by_cases h0 : s.size = 0
 ·simp only [if_pos ((toList_nil_iff s).2 h0)]
  simp only [h0]
  simpa using hj
 ·simp only [if_neg (fun h => h0 ((toList_nil_iff s).1 h))]
  by_cases h1 : (s.size : Int) > 10
  ·simp only [if_pos h1, show ¬ (1 ≤ s.size ∧ s.size ≤ 10) by omega, decide_false, Bool.false_and]
   exact hj
  ·simp only [if_neg h1, if_pos (show 0 < (s.size : Int) by omega), small_eq, Option.bind_some, show (1 ≤ s.size ∧ s.size ≤ 10) by omega, decide_true, Bool.true_and]
   apply Ev_succ
   by_cases h2 : 97 ≤ bt s 0 ∧ bt s 0 ≤ 122
   ·simp only [spec_l01Name.j0, h2, decide_true, Bool.not_true, Bool.false_eq_true, if_false, and_self, Bool.true_and]
    exact hl
   ·simp only [spec_l01Name.j0, h2, decide_false, Bool.not_false, if_true, Bool.false_and]
    exact Ev.now _
theorem only_l0 (s : ByteArray) (hs : s.size ≤ 9223372036854775806) (d : Nat) : ∀ i : Nat, i + d = s.size → Ev (fun k => impl_onlyNameBytes.l0 k s (s.size : Int) (i : Int)) (allFrom nmC s i d) := by
 induction d with
 | zero =>
  intro i hi
  apply Ev_succ
  simp only [impl_onlyNameBytes.l0, if_neg (show ¬ ((i : Int) < (s.size : Int)) by omega)]
  exact Ev.now _
 | succ d ih =>
  intro i hi
  apply Ev_succ
  simp only [impl_onlyNameBytes.l0, if_pos (show (i : Int) < (s.size : Int) by omega), if_pos (show 0 ≤ (i : Int) by omega), wr (show -9223372036854775808 ≤ (i : Int) + 1 by omega) (by omega)]
  have h2 := ih (i + 1) (by omega)
  rw [show ((i + 1 : Nat) : Int) = (i : Int) + 1 by omega] at h2
  unfold allFrom nmC
  generalize bt s (i : Int) = c
  have e1 : ∀ p : Bool, p = true → Ev (fun k => impl_onlyNameBytes.l0 k s (s.size : Int) ((i : Int) + 1)) (p && allFrom nmC s (i + 1) d) := by
   intro p hp
   rw [hp, Bool.true_and]
   exact h2
  have e2 : ∀ p : Bool, p = false → Ev (fun _ => some false) (p && allFrom nmC s (i + 1) d) := by
   intro p hp
   rw [hp, Bool.false_and]
   exact Ev.now _
  refine Ev_ite (fun a => Ev_ite (fun b => e2 _ (by simp; omega)) (fun b => Ev_ite (fun c => e2 _ (by simp; omega)) (fun c => e1 _ (by simp; omega)))) (fun a => Ev_ite (fun b => Ev_ite (fun c => e2 _ (by simp; omega)) (fun c => Ev_ite (fun d => e2 _ (by simp; omega)) (fun d => e1 _ (by simp; omega)))) (fun b => e1 _ (by simp; omega)))
theorem IsName_eq (s : ByteArray) (hs : s.size ≤ 9223372036854775806) : Ev (fun k => impl_IsName.f k s) (isNm s) := by
 have hl := only_l0 s hs s.size 0 (by omega)
 unfold impl_IsName.f isNm
 by_cases h0 : s.size < 1
 ·simp only [if_pos (show (s.size : Int) < 1 by omega), show ¬ (1 ≤ s.size ∧ s.size ≤ 10) by omega, decide_false, Bool.false_and]
  exact Ev.now _
 ·simp only [if_neg (show ¬ (s.size : Int) < 1 by omega)]
  by_cases h1 : (s.size : Int) > 10
  ·simp only [if_pos h1, show ¬ (1 ≤ s.size ∧ s.size ≤ 10) by omega, decide_false, Bool.false_and]
   exact Ev.now _
  ·simp only [if_neg h1, if_pos (show 0 < (s.size : Int) by omega), show (1 ≤ s.size ∧ s.size ≤ 10) by omega, decide_true, Bool.true_and]
   by_cases h2 : bt s 0 < 97
   ·simp only [if_pos h2, show ¬ (97 ≤ bt s 0 ∧ bt s 0 ≤ 122) by omega, decide_false, Bool.false_and]
    exact Ev.now _
   ·simp only [if_neg h2]
    by_cases h3 : bt s 0 > 122
    ·simp only [if_pos h3, show ¬ (97 ≤ bt s 0 ∧ bt s 0 ≤ 122) by omega, decide_false, Bool.false_and]
     exact Ev.now _
    ·simp only [if_neg h3, show (97 ≤ bt s 0 ∧ bt s 0 ≤ 122) by omega, decide_true, Bool.true_and]
     refine Ev.bind (g := fun k => impl_onlyNameBytes.f k s) (f := fun _ t => some t) ?_ (Ev.now _)
     unfold impl_onlyNameBytes.f
     exact hl
end Go.Proofs.Ytoalffemjkkngaa.Pu
end
section
namespace Go.Proofs.Ytoalffemjkkngaa.Pu
set_option linter.unusedSimpArgs false
set_option linter.unusedVariables false
open Go.RowKit Go.Proofs.YtoalffemjkkngaaW.PrintWords Go.Proofs.Ytoalffemjkkngaa.PA
theorem cmpI_eq (a b : Int) : cmp_Compare_int64.f a b = some (if a < b then -1 else if a > b then 1 else 0) := by
 simp only [cmp_Compare_int64.f, cmp_isNaN_int64.f, Option.bind_some, bne_self_eq_false, Bool.false_eq_true, if_false]
 by_cases h : a < b
 ·simp only [if_pos h]
 ·by_cases h2 : a > b
  ·simp only [if_neg h, if_pos h2]
  ·simp only [if_neg h, if_neg h2]
theorem cmpS_eq (a b : ByteArray) : cmp_Compare_string.f a b = some (if Op.bytesLess a.toList b.toList = true then -1 else if Op.bytesLess b.toList a.toList = true then 1 else 0) := by
 simp only [cmp_Compare_string.f, cmp_isNaN_string.f, Option.bind_some, bne_self_eq_false, Bool.false_eq_true, if_false]
 cases h : Op.bytesLess a.toList b.toList with
 | true => simp only [if_true]
 | false =>
  cases h2 : Op.bytesLess b.toList a.toList with
  | true => simp only [Bool.false_eq_true, if_false, if_true]
  | false => simp only [Bool.false_eq_true, if_false]
theorem or3 (a b c : Int) : Ev (fun k => cmp_Or_int.f k [a, b, c]) (if a = 0 then (if b = 0 then c else b) else a) := by
 have e0 : rd [a, b, c] 0 = a := rfl
 have e1 : rd [a, b, c] 1 = b := rfl
 have e2 : rd [a, b, c] 2 = c := rfl
 have w0 : wrap64 (0 + 1) = 1 := wr (by omega) (by omega)
 have w1 : wrap64 (1 + 1) = 2 := wr (by omega) (by omega)
 have w2 : wrap64 (2 + 1) = 3 := wr (by omega) (by omega)
 have ln : (([a, b, c] : List Int).length : Int) = 3 := rfl
 unfold cmp_Or_int.f
 rw [ln]
 apply Ev_succ
 simp only [cmp_Or_int.l0, ln, e0, w0, if_pos (show (0 : Int) < 3 by omega), if_pos (show (0 : Int) ≤ 0 by omega)]
 by_cases ha : a = 0
 ·simp only [if_pos ha]
  apply Ev_succ
  simp only [cmp_Or_int.l0, ln, e1, w1, if_pos (show (1 : Int) < 3 by omega), if_pos (show (0 : Int) ≤ 1 by omega)]
  by_cases hb : b = 0
  ·simp only [if_pos hb]
   apply Ev_succ
   simp only [cmp_Or_int.l0, ln, e2, w2, if_pos (show (2 : Int) < 3 by omega), if_pos (show (0 : Int) ≤ 2 by omega)]
   by_cases hc : c = 0
   ·simp only [if_pos hc]
    apply Ev_succ
    simp only [cmp_Or_int.l0, if_neg (show ¬ ((3 : Int) < 3) by omega), hc]
    exact Ev.now _
   ·simp only [if_neg hc]
    exact Ev.now _
  ·simp only [if_neg hb]
   exact Ev.now _
 ·simp only [if_neg ha]
  exact Ev.now _
def befT (x y : S53) : Bool := if x.f1 = y.f1 then (if x.f0.toList = y.f0.toList then decide (x.f2 < y.f2) else Op.bytesLess x.f0.toList y.f0.toList) else decide (x.f1 < y.f1)
def okT (x : S53) : Bool := isNm x.f0 && (decide (0 ≤ x.f1 ∧ x.f1 ≤ 10000) && decide (1 ≤ x.f2 ∧ x.f2 ≤ 10000))
def okTFrom (l : List S53) : Nat → Nat → Bool
 | _, 0 => true
 | i, d + 1 => okT (rd_T53 l i) && ((decide (i = 0) || befT (rd_T53 l ((i : Int) - 1)) (rd_T53 l i)) && okTFrom l (i + 1) d)
def okTs (l : List S53) : Bool := decide (l.length ≤ 24) && okTFrom l 0 l.length
theorem before_eq (x y : S53) : spec_l23Before.f [x] [y] = some (befT x y) := by
 have e0 : rd_T53 [x] 0 = x := rfl
 have e1 : rd_T53 [y] 0 = y := rfl
 simp only [spec_l23Before.f, befT, e0, e1, List.length_singleton, if_pos (show (0 : Int) < ((1 : Nat) : Int) by omega)]
 by_cases h : x.f1 = y.f1
 ·simp only [if_pos h]
  by_cases h2 : x.f0.toList = y.f0.toList
  ·simp only [if_pos h2]
  ·simp only [if_neg h2]
 ·simp only [if_neg h]
theorem compareTurns_eq (x y : S53) : ∃ c, Ev (fun k => impl_compareTurns.f k x.f0 x.f1 x.f2 y.f0 y.f1 y.f2) c ∧ (c ≥ 0 ↔ befT x y = false) := by
 have hor := or3 (if x.f1 < y.f1 then -1 else if x.f1 > y.f1 then 1 else 0) (if Op.bytesLess x.f0.toList y.f0.toList = true then -1 else if Op.bytesLess y.f0.toList x.f0.toList = true then 1 else 0) (if x.f2 < y.f2 then -1 else if x.f2 > y.f2 then 1 else 0)
 refine ⟨(if (if x.f1 < y.f1 then (-1 : Int) else if x.f1 > y.f1 then 1 else 0) = 0 then (if (if Op.bytesLess x.f0.toList y.f0.toList = true then (-1 : Int) else if Op.bytesLess y.f0.toList x.f0.toList = true then 1 else 0) = 0 then (if x.f2 < y.f2 then -1 else if x.f2 > y.f2 then 1 else 0) else (if Op.bytesLess x.f0.toList y.f0.toList = true then -1 else if Op.bytesLess y.f0.toList x.f0.toList = true then 1 else 0)) else (if x.f1 < y.f1 then -1 else if x.f1 > y.f1 then 1 else 0)), ?_, ?_⟩
 ·unfold impl_compareTurns.f
  simp only [cmpI_eq, cmpS_eq, Option.bind_some]
  exact Ev.bind (f := fun _ t => some t) hor (Ev.now _)
 ·clear hor
  unfold befT
  by_cases h1 : x.f1 = y.f1
  ·simp only [if_pos h1, if_neg (show ¬ x.f1 < y.f1 by omega), if_neg (show ¬ x.f1 > y.f1 by omega), if_true]
   by_cases h2 : x.f0.toList = y.f0.toList
   ·have e := Go.Proofs.YtoalffemjkkngaaY.bytesLess_lt y.f0.toList y.f0.toList
    rw [decide_eq_false (List.lt_irrefl _)] at e
    simp only [h2, e, Bool.false_eq_true, if_false, if_true]
    by_cases h3 : x.f2 < y.f2
    ·simp [h3]
    ·by_cases h4 : x.f2 > y.f2 <;> simp [h3, h4]
   ·simp only [if_neg h2]
    cases e : Op.bytesLess x.f0.toList y.f0.toList with
    | true => simp
    | false =>
     have h := Go.Proofs.YtoalffemjkkngaaY.str_leq x.f0.toList y.f0.toList
     rw [e] at h
     cases e2 : Op.bytesLess y.f0.toList x.f0.toList with
     | true => simp
     | false =>
      rw [e2] at h
      simp only [Bool.false_or, Bool.not_false, beq_iff_eq] at h
      exact absurd h.symm h2
  ·simp only [if_neg h1]
   by_cases h3 : x.f1 < y.f1
   ·simp [h3]
   ·have h4 : x.f1 > y.f1 := by omega
    simp [h3, h4]
theorem l23One_eq (x : S53) (hs : x.f0.size ≤ 1048576) : Ev (fun k => spec_l23One.f k [x]) (okT x) := by
 have e0 : rd_T53 [x] 0 = x := rfl
 unfold okT
 simp only [spec_l23One.f, e0, List.length_singleton, if_pos (show (0 : Int) < ((1 : Nat) : Int) by omega), l00In_eq, Option.bind_some]
 refine Ev.bind (l01Name_eq _ (by omega)) ?_
 cases isNm x.f0 with
 | false => simp only [Bool.false_eq_true, if_false, Bool.false_and]; exact Ev.now _
 | true =>
  simp only [if_true, Bool.true_and]
  by_cases h : 0 ≤ x.f1 ∧ x.f1 ≤ 10000
  ·simp only [decide_eq_true h, if_true, Bool.true_and]
   exact Ev.now _
  ·simp only [decide_eq_false h, Bool.false_eq_true, if_false, Bool.false_and]
   exact Ev.now _
theorem Turn_valid_eq (x : S53) (hs : x.f0.size ≤ 1048576) : Ev (fun k => impl_Turn_valid.f k x.f0 x.f1 x.f2) (okT x) := by
 unfold okT impl_Turn_valid.f
 simp only [within_eq, Option.bind_some]
 refine Ev.bind (IsName_eq _ (by omega)) ?_
 cases isNm x.f0 with
 | false => simp only [Bool.false_eq_true, if_false, Bool.false_and]; exact Ev.now _
 | true =>
  simp only [if_true, Bool.true_and]
  by_cases h : 0 ≤ x.f1 ∧ x.f1 ≤ 10000
  ·simp only [decide_eq_true h, if_true, Bool.true_and]
   exact Ev.now _
  ·simp only [decide_eq_false h, Bool.false_eq_true, if_false, Bool.false_and]
   exact Ev.now _
theorem rdT_mem (l : List S53) (i : Nat) (h : i < l.length) : rd_T53 l (i : Int) = l[i] := by
 simp [rd_T53, List.getD_eq_getElem?_getD, List.getElem?_eq_getElem h]
theorem dropT_rd (l : List S53) (i : Nat) (h : i < l.length) : l.drop i = rd_T53 l (i : Int) :: l.drop (i + 1) := by
 rw [rdT_mem l i h]
 exact List.drop_eq_getElem_cons h
theorem l23Ok_l0 (l : List S53) (hl : l.length ≤ 1048576) (hn : ∀ x ∈ l, x.f0.size ≤ 1048576) (d : Nat) : ∀ i : Nat, i + d = l.length → Ev (fun k => spec_l23Ok.l0 k l (i : Int)) (okTFrom l i d && decide (l.length ≤ 24)) := by
 induction d with
 | zero =>
  intro i hi
  apply Ev_succ
  simp only [spec_l23Ok.l0, if_neg (show ¬ ((i : Int) < (l.length : Int)) by omega), okTFrom, Bool.true_and]
  rw [show decide ((l.length : Int) ≤ 24) = decide (l.length ≤ 24) by simp; omega]
  exact Ev.now _
 | succ d ih =>
  intro i hi
  have hlt : i < l.length := by omega
  have hs := hn (rd_T53 l (i : Int)) (by rw [rdT_mem l i hlt]; exact List.getElem_mem hlt)
  apply Ev_succ
  simp only [spec_l23Ok.l0, before_eq, Option.bind_some, if_pos (show (i : Int) < (l.length : Int) by omega), if_pos (show 0 ≤ (i : Int) by omega), wr (show -9223372036854775808 ≤ (i : Int) + 1 by omega) (by omega), wr (show -9223372036854775808 ≤ (i : Int) - 1 by omega) (by omega)]
  refine Ev.bind (l23One_eq _ (by omega)) ?_
  unfold okTFrom
  cases okT (rd_T53 l (i : Int)) with
  | false => simp only [Bool.false_eq_true, if_false, Bool.false_and]; exact Ev.now _
  | true =>
   have h2 := ih (i + 1) (by omega)
   rw [show ((i + 1 : Nat) : Int) = (i : Int) + 1 by omega] at h2
   simp only [if_true, Bool.true_and]
   by_cases h0 : i = 0
   ·simp only [if_neg (show ¬ ((i : Int) > 0) by omega), h0, decide_true, Bool.true_or, Bool.true_and]
    subst h0
    exact h2
   ·simp only [if_pos (show (i : Int) > 0 by omega), if_pos (show 0 ≤ (i : Int) - 1 by omega), if_pos (show (i : Int) - 1 < (l.length : Int) by omega), h0, decide_false, Bool.false_or]
    cases befT (rd_T53 l ((i : Int) - 1)) (rd_T53 l (i : Int)) with
    | true => simp only [if_true, Bool.true_and]; exact h2
    | false => simp only [Bool.false_eq_true, if_false, Bool.false_and]; exact Ev.now _
theorem l23Ok_eq (l : List S53) (hl : l.length ≤ 1048576) (hn : ∀ x ∈ l, x.f0.size ≤ 1048576) : Ev (fun k => spec_l23Ok.f k l) (okTs l) := by
 unfold spec_l23Ok.f okTs
 rw [Bool.and_comm]
 exact l23Ok_l0 l hl hn l.length 0 (by omega)
theorem ValidTurns_l0 (l : List S53) (hl : l.length ≤ 1048576) (hn : ∀ x ∈ l, x.f0.size ≤ 1048576) (d : Nat) : ∀ i : Nat, i + d = l.length → Ev (fun k => impl_ValidTurns.l0 k l l (l.length : Int) (i : Int)) (okTFrom l i d) := by
 induction d with
 | zero =>
  intro i hi
  apply Ev_succ
  simp only [impl_ValidTurns.l0, if_neg (show ¬ ((i : Int) < (l.length : Int)) by omega), okTFrom]
  exact Ev.now _
 | succ d ih =>
  intro i hi
  have hlt : i < l.length := by omega
  have hs := hn (rd_T53 l (i : Int)) (by rw [rdT_mem l i hlt]; exact List.getElem_mem hlt)
  apply Ev_succ
  simp only [impl_ValidTurns.l0, if_pos (show (i : Int) < (l.length : Int) by omega), if_pos (show 0 ≤ (i : Int) by omega), wr (show -9223372036854775808 ≤ (i : Int) + 1 by omega) (by omega), wr (show -9223372036854775808 ≤ (i : Int) - 1 by omega) (by omega)]
  refine Ev.bind (Turn_valid_eq _ (by omega)) ?_
  unfold okTFrom
  cases okT (rd_T53 l (i : Int)) with
  | false => simp only [Bool.false_eq_true, if_false, Bool.false_and]; exact Ev.now _
  | true =>
   have h2 := ih (i + 1) (by omega)
   rw [show ((i + 1 : Nat) : Int) = (i : Int) + 1 by omega] at h2
   simp only [if_true, Bool.true_and]
   by_cases h0 : i = 0
   ·simp only [if_neg (show ¬ ((i : Int) > 0) by omega), h0, decide_true, Bool.true_or, Bool.true_and]
    subst h0
    exact h2
   ·simp only [if_pos (show (i : Int) > 0 by omega), if_pos (show 0 ≤ (i : Int) - 1 by omega), if_pos (show (i : Int) - 1 < (l.length : Int) by omega), h0, decide_false, Bool.false_or]
    obtain ⟨c, hc, hb⟩ := compareTurns_eq (rd_T53 l ((i : Int) - 1)) (rd_T53 l (i : Int))
    refine Ev.bind hc ?_
    cases e : befT (rd_T53 l ((i : Int) - 1)) (rd_T53 l (i : Int)) with
    | true =>
     have hn : ¬ c ≥ 0 := fun h => by rw [hb.1 h] at e; cases e
     simp only [if_neg hn, Bool.true_and]
     exact h2
    | false =>
     simp only [if_pos (hb.2 e), Bool.false_and]
     exact Ev.now _
theorem ValidTurns_eq (l : List S53) (hl : l.length ≤ 1048576) (hn : ∀ x ∈ l, x.f0.size ≤ 1048576) : Ev (fun k => impl_ValidTurns.f k l) (okTs l) := by
 unfold impl_ValidTurns.f okTs
 by_cases h : l.length ≤ 24
 ·simp only [if_neg (show ¬ ((l.length : Int) > 24) by omega), h, decide_true, Bool.true_and]
  exact ValidTurns_l0 l hl hn l.length 0 (by omega)
 ·simp only [if_pos (show (l.length : Int) > 24 by omega), h, decide_false, Bool.false_and]
  exact Ev.now _
theorem okTFrom_wf (l : List S53) (d : Nat) : ∀ i : Nat, i + d = l.length → okTFrom l i d = true → ∀ x ∈ l.drop i, okT x = true := by
 induction d with
 | zero =>
  intro i hi _ x hx
  rw [List.drop_of_length_le (by omega)] at hx
  cases hx
 | succ d ih =>
  intro i hi h x hx
  simp only [okTFrom, Bool.and_eq_true] at h
  rw [dropT_rd l i (by omega)] at hx
  rcases List.mem_cons.1 hx with rfl | hx
  ·exact h.1
  ·exact ih (i + 1) (by omega) h.2.2 x hx
theorem okTs_wf {l : List S53} (h : okTs l = true) : l.length ≤ 24 ∧ ∀ x ∈ l, 0 ≤ x.f1 ∧ x.f1 ≤ 10000 ∧ 1 ≤ x.f2 ∧ x.f2 ≤ 10000 := by
 simp only [okTs, Bool.and_eq_true, decide_eq_true_eq] at h
 refine ⟨h.1, fun x hx => ?_⟩
 have h2 := okTFrom_wf l l.length 0 (by omega) h.2 x (by simpa using hx)
 simp only [okT, Bool.and_eq_true, decide_eq_true_eq] at h2
 omega
end Go.Proofs.Ytoalffemjkkngaa.Pu
end
section
namespace Go.Proofs.Ytoalffemjkkngaa.Pu
set_option linter.unusedSimpArgs false
set_option linter.unusedVariables false
open Go.RowKit Go.Proofs.YtoalffemjkkngaaW.PrintWords Go.Proofs.Ytoalffemjkkngaa.PA
theorem rdI_at (l : List Int) (i : Nat) (h : i < l.length) : rd l (i : Int) = l[i] := by
 simp [rd, List.getD_eq_getElem?_getD, List.getElem?_eq_getElem h]
theorem dropI_rd (l : List Int) (i : Nat) (h : i < l.length) : l.drop i = rd l (i : Int) :: l.drop (i + 1) := by
 rw [rdI_at l i h]
 exact List.drop_eq_getElem_cons h
theorem takeI_rd (l : List Int) (i : Nat) (h : i < l.length) : l.take (i + 1) = l.take i ++ [rd l (i : Int)] := by
 rw [rdI_at l i h, List.take_succ_eq_append_getElem h]
def putL : List Int → Int → List Int
 | [], v => [v]
 | x :: r, v => if v ≤ x then (if v < x then v :: x :: r else x :: r) else x :: putL r v
theorem putL_mem (v y : Int) : ∀ l : List Int, y ∈ putL l v ↔ y = v ∨ y ∈ l
 | [] => by simp [putL]
 | x :: r => by
  unfold putL
  by_cases h : v ≤ x
  ·by_cases h2 : v < x
   ·simp [h, h2]
   ·have e : v = x := by omega
    subst e
    simp
  ·rw [if_neg h, List.mem_cons, putL_mem v y r, List.mem_cons]
   exact ⟨fun h => h.elim (fun h => Or.inr (Or.inl h)) (fun h => h.elim Or.inl (fun h => Or.inr (Or.inr h))), fun h => h.elim (fun h => Or.inr (Or.inl h)) (fun h => h.elim Or.inl (fun h => Or.inr (Or.inr h)))⟩
theorem putL_sorted (v : Int) : ∀ l : List Int, l.Pairwise (· < ·) → (putL l v).Pairwise (· < ·)
 | [], _ => by simp [putL]
 | x :: r, h => by
  have h0 := List.pairwise_cons.1 h
  unfold putL
  by_cases h1 : v ≤ x
  ·by_cases h2 : v < x
   ·rw [if_pos h1, if_pos h2]
    refine List.pairwise_cons.2 ⟨fun y hy => ?_, h⟩
    rcases List.mem_cons.1 hy with rfl | hy
    ·exact h2
    ·have := h0.1 y hy
     omega
   ·rw [if_pos h1, if_neg h2]
    exact h
  ·rw [if_neg h1]
   refine List.pairwise_cons.2 ⟨fun y hy => ?_, putL_sorted v r h0.2⟩
   rcases (putL_mem v y r).1 hy with rfl | hy
   ·omega
   ·exact h0.1 y hy
theorem putL_length (v : Int) : ∀ l : List Int, (putL l v).length ≤ l.length + 1
 | [] => by simp [putL]
 | x :: r => by
  have := putL_length v r
  unfold putL
  by_cases h1 : v ≤ x
  ·by_cases h2 : v < x <;> simp [h1, h2]
  ·simp [h1]
   omega
theorem put_done (xs : List Int) (v : Int) (hx : xs.length ≤ 1000) (d : Nat) : ∀ (i : Nat) (out : List Int), i + d = xs.length → out.length ≤ i + 1 → Ev (fun k => spec_l00Put.l0 k xs v out true (i : Int)) (out ++ xs.drop i) := by
 induction d with
 | zero =>
  intro i out hi ho
  apply Ev_succ
  simp only [spec_l00Put.l0, if_neg (show ¬ ((i : Int) < (xs.length : Int)) by omega), if_true, List.drop_of_length_le (show xs.length ≤ i by omega), List.append_nil]
  exact Ev.now _
 | succ d ih =>
  intro i out hi ho
  have h2 := ih (i + 1) (out ++ [rd xs (i : Int)]) (by omega) (by rw [List.length_append, List.length_singleton]; omega)
  rw [show ((i + 1 : Nat) : Int) = (i : Int) + 1 by omega] at h2
  rw [dropI_rd xs i (by omega), List.append_cons]
  apply Ev_succ
  simp only [spec_l00Put.l0, if_pos (show ((i : Int) < (xs.length : Int)) by omega), if_true]
  apply Ev_succ
  simp only [spec_l00Put.j1, Bool.false_eq_true, if_false, if_pos (show ((i : Int) < (xs.length : Int)) by omega), if_pos (show 0 ≤ (i : Int) by omega), if_pos (show out.length < 17592186044416 by omega), wr (show -9223372036854775808 ≤ (i : Int) + 1 by omega) (by omega)]
  exact h2
theorem put_l0 (xs : List Int) (v : Int) (hx : xs.length ≤ 1000) (d : Nat) : ∀ (i : Nat), i + d = xs.length → Ev (fun k => spec_l00Put.l0 k xs v (xs.take i) false (i : Int)) (xs.take i ++ putL (xs.drop i) v) := by
 induction d with
 | zero =>
  intro i hi
  apply Ev_succ
  have ht : (xs.take i).length ≤ 1000 := by rw [List.length_take]; omega
  simp only [spec_l00Put.l0, if_neg (show ¬ ((i : Int) < (xs.length : Int)) by omega), Bool.false_eq_true, if_false, List.drop_of_length_le (show xs.length ≤ i by omega), putL, if_pos (show (xs.take i).length < 17592186044416 by omega)]
  exact Ev.now _
 | succ d ih =>
  intro i hi
  have ht : (xs.take i).length = i := by rw [List.length_take]; omega
  have hb : (xs.take i).length < 17592186044416 := by omega
  have h2 := ih (i + 1) (by omega)
  rw [show ((i + 1 : Nat) : Int) = (i : Int) + 1 by omega, takeI_rd xs i (by omega)] at h2
  rw [dropI_rd xs i (by omega)]
  apply Ev_succ
  simp only [spec_l00Put.l0, if_pos (show ((i : Int) < (xs.length : Int)) by omega), Bool.false_eq_true, if_false, if_pos (show 0 ≤ (i : Int) by omega)]
  apply Ev_succ
  simp only [putL]
  by_cases h1 : v ≤ rd xs (i : Int)
  ·simp only [spec_l00Put.j1, ge_iff_le, decide_eq_true h1, if_true, if_pos (show ((i : Int) < (xs.length : Int)) by omega), if_pos (show 0 ≤ (i : Int) by omega), if_pos hb, wr (show -9223372036854775808 ≤ (i : Int) + 1 by omega) (by omega), if_pos h1]
   by_cases h3 : v < rd xs (i : Int)
   ·have h4 := put_done xs v hx d (i + 1) (xs.take i ++ [v] ++ [rd xs (i : Int)]) (by omega) (by simp only [List.length_append, List.length_singleton]; omega)
    rw [show ((i + 1 : Nat) : Int) = (i : Int) + 1 by omega] at h4
    simp only [gt_iff_lt, if_pos h3, Option.bind_some, if_pos (show (xs.take i ++ [v]).length < 17592186044416 by rw [List.length_append, List.length_singleton]; omega)]
    exact Go_Ev_cast h4 (by simp)
   ·have h4 := put_done xs v hx d (i + 1) (xs.take i ++ [rd xs (i : Int)]) (by omega) (by simp only [List.length_append, List.length_singleton]; omega)
    rw [show ((i + 1 : Nat) : Int) = (i : Int) + 1 by omega] at h4
    simp only [gt_iff_lt, if_neg h3]
    exact Go_Ev_cast h4 (by simp)
  ·simp only [spec_l00Put.j1, ge_iff_le, decide_eq_false h1, Bool.false_eq_true, if_false, if_pos (show ((i : Int) < (xs.length : Int)) by omega), if_pos (show 0 ≤ (i : Int) by omega), if_pos hb, wr (show -9223372036854775808 ≤ (i : Int) + 1 by omega) (by omega), if_neg h1]
   exact Go_Ev_cast h2 (by simp)
theorem put_eq (xs : List Int) (v : Int) (hx : xs.length ≤ 1000) : Ev (fun k => spec_l00Put.f k xs v) (putL xs v) := by
 unfold spec_l00Put.f
 exact put_l0 xs v hx xs.length 0 (by omega)
def endsL : List S53 → List Int → List Int
 | [], e => e
 | x :: r, e => endsL r (putL (putL e x.f1) (x.f1 + x.f2))
theorem endsL_mem (y : Int) : ∀ (l : List S53) (e : List Int), y ∈ endsL l e ↔ y ∈ e ∨ ∃ x ∈ l, y = x.f1 ∨ y = x.f1 + x.f2
 | [], e => by simp [endsL]
 | x :: r, e => by
  unfold endsL
  rw [endsL_mem y r, putL_mem, putL_mem]
  constructor
  ·rintro ((h | h | h) | ⟨z, hz, h⟩)
   ·exact Or.inr ⟨x, List.mem_cons_self, Or.inr h⟩
   ·exact Or.inr ⟨x, List.mem_cons_self, Or.inl h⟩
   ·exact Or.inl h
   ·exact Or.inr ⟨z, List.mem_cons_of_mem _ hz, h⟩
  ·rintro (h | ⟨z, hz, h⟩)
   ·exact Or.inl (Or.inr (Or.inr h))
   ·rcases List.mem_cons.1 hz with rfl | hz
    ·rcases h with h | h
     ·exact Or.inl (Or.inr (Or.inl h))
     ·exact Or.inl (Or.inl h)
    ·exact Or.inr ⟨z, hz, h⟩
theorem endsL_sorted : ∀ (l : List S53) (e : List Int), e.Pairwise (· < ·) → (endsL l e).Pairwise (· < ·)
 | [], e, h => h
 | x :: r, e, h => endsL_sorted r _ (putL_sorted _ _ (putL_sorted _ _ h))
theorem endsL_length : ∀ (l : List S53) (e : List Int), (endsL l e).length ≤ e.length + 2 * l.length
 | [], e => by simp [endsL]
 | x :: r, e => by
  have h1 := endsL_length r (putL (putL e x.f1) (x.f1 + x.f2))
  have h2 := putL_length (x.f1 + x.f2) (putL e x.f1)
  have h3 := putL_length x.f1 e
  unfold endsL
  rw [List.length_cons]
  omega
def turnOk (x : S53) : Prop := 0 ≤ x.f1 ∧ x.f1 ≤ 10000 ∧ 1 ≤ x.f2 ∧ x.f2 ≤ 10000
theorem rdT_ok {l : List S53} (hok : ∀ x ∈ l, turnOk x) (i : Nat) (h : i < l.length) : turnOk (rd_T53 l (i : Int)) := by
 rw [rdT_mem l i h]
 exact hok _ (List.getElem_mem h)
theorem ends_l0 (l : List S53) (hl : l.length ≤ 24) (hok : ∀ x ∈ l, turnOk x) (d : Nat) : ∀ (i : Nat) (e : List Int), i + d = l.length → e.length ≤ 2 * i → Ev (fun k => spec_l23Ends.l0 k l e (i : Int)) (endsL (l.drop i) e) := by
 induction d with
 | zero =>
  intro i e hi he
  apply Ev_succ
  simp only [spec_l23Ends.l0, if_neg (show ¬ ((i : Int) < (l.length : Int)) by omega), List.drop_of_length_le (show l.length ≤ i by omega), endsL]
  exact Ev.now _
 | succ d ih =>
  intro i e hi he
  have hx := rdT_ok hok i (by omega)
  unfold turnOk at hx
  rw [dropT_rd l i (by omega), endsL]
  apply Ev_succ
  simp only [spec_l23Ends.l0, if_pos (show ((i : Int) < (l.length : Int)) by omega), if_pos (show 0 ≤ (i : Int) by omega), wr (show -9223372036854775808 ≤ (i : Int) + 1 by omega) (by omega), wr (show -9223372036854775808 ≤ (rd_T53 l (i : Int)).f1 + (rd_T53 l (i : Int)).f2 by omega) (by omega)]
  have l1 := putL_length (rd_T53 l (i : Int)).f1 e
  have l2 := putL_length ((rd_T53 l (i : Int)).f1 + (rd_T53 l (i : Int)).f2) (putL e (rd_T53 l (i : Int)).f1)
  refine Ev.bind (put_eq _ _ (by omega)) (Ev.bind (put_eq _ _ (by omega)) ?_)
  have h2 := ih (i + 1) _ (by omega) (show (putL (putL e (rd_T53 l (i : Int)).f1) ((rd_T53 l (i : Int)).f1 + (rd_T53 l (i : Int)).f2)).length ≤ 2 * (i + 1) by omega)
  rwa [show ((i + 1 : Nat) : Int) = (i : Int) + 1 by omega] at h2
theorem ends_eq (l : List S53) (hl : l.length ≤ 24) (hok : ∀ x ∈ l, turnOk x) : Ev (fun k => spec_l23Ends.f k l) (endsL l []) := by
 unfold spec_l23Ends.f
 exact ends_l0 l hl hok l.length 0 [] (by omega) (by simp)
def sounds (t : Int) (x : S53) : Bool := decide (x.f1 ≤ t ∧ t ≤ x.f1 + x.f2 - 1)
def hasN (out : List ByteArray) (n : ByteArray) : Bool := out.any fun m => decide (m.toList = n.toList)
theorem toList_inj {a b : ByteArray} (h : a.toList = b.toList) : a = b := bytes_ext (by rw [← toList_data, ← toList_data, h])
theorem hasN_mem {out : List ByteArray} {n : ByteArray} : hasN out n = true ↔ n ∈ out := by
 unfold hasN
 rw [List.any_eq_true]
 constructor
 ·rintro ⟨m, hm, h⟩
  rw [decide_eq_true_eq] at h
  rwa [← toList_inj h]
 ·intro h
  exact ⟨n, h, by simp⟩
def insN : List ByteArray → ByteArray → List ByteArray
 | [], n => [n]
 | m :: r, n => if Op.bytesLess m.toList n.toList = true then m :: insN r n else n :: m :: r
theorem insN_perm (n : ByteArray) : ∀ l : List ByteArray, (insN l n).Perm (n :: l)
 | [] => List.Perm.refl _
 | m :: r => by
  unfold insN
  by_cases h : Op.bytesLess m.toList n.toList = true
  ·rw [if_pos h]
   exact ((insN_perm n r).cons m).trans (List.Perm.swap _ _ _)
  ·rw [if_neg h]
def atL (t : Int) : List S53 → List ByteArray → List ByteArray
 | [], out => out
 | x :: r, out => atL t r (if sounds t x = true then (if hasN out x.f0 = true then out else insN out x.f0) else out)
theorem atL_wf (t : Int) : ∀ (l : List S53) (out : List ByteArray), out.Nodup → (atL t l out).Nodup ∧ ∀ y, y ∈ atL t l out ↔ y ∈ out ∨ ∃ x ∈ l, sounds t x = true ∧ y = x.f0
 | [], out, h => ⟨h, fun y => by simp [atL]⟩
 | x :: r, out, h => by
  unfold atL
  by_cases h1 : sounds t x = true
  ·by_cases h2 : hasN out x.f0 = true
   ·rw [if_pos h1, if_pos h2]
    obtain ⟨a, b⟩ := atL_wf t r out h
    refine ⟨a, fun y => ?_⟩
    rw [b y]
    constructor
    ·rintro (h | ⟨z, hz, h⟩)
     ·exact Or.inl h
     ·exact Or.inr ⟨z, List.mem_cons_of_mem _ hz, h⟩
    ·rintro (h | ⟨z, hz, h, h3⟩)
     ·exact Or.inl h
     ·rcases List.mem_cons.1 hz with rfl | hz
      ·exact Or.inl (h3 ▸ hasN_mem.1 h2)
      ·exact Or.inr ⟨z, hz, h, h3⟩
   ·rw [if_pos h1, if_neg h2]
    have hn : x.f0 ∉ out := fun h => h2 (hasN_mem.2 h)
    have hp := insN_perm x.f0 out
    obtain ⟨a, b⟩ := atL_wf t r (insN out x.f0) (hp.nodup_iff.2 (List.nodup_cons.2 ⟨hn, h⟩))
    refine ⟨a, fun y => ?_⟩
    rw [b y, hp.mem_iff, List.mem_cons]
    constructor
    ·rintro ((h | h) | ⟨z, hz, h⟩)
     ·exact Or.inr ⟨x, List.mem_cons_self, h1, h⟩
     ·exact Or.inl h
     ·exact Or.inr ⟨z, List.mem_cons_of_mem _ hz, h⟩
    ·rintro (h | ⟨z, hz, h, h3⟩)
     ·exact Or.inl (Or.inr h)
     ·rcases List.mem_cons.1 hz with rfl | hz
      ·exact Or.inl (Or.inl h3)
      ·exact Or.inr ⟨z, hz, h, h3⟩
  ·rw [if_neg h1]
   obtain ⟨a, b⟩ := atL_wf t r out h
   refine ⟨a, fun y => ?_⟩
   rw [b y]
   constructor
   ·rintro (h | ⟨z, hz, h⟩)
    ·exact Or.inl h
    ·exact Or.inr ⟨z, List.mem_cons_of_mem _ hz, h⟩
   ·rintro (h | ⟨z, hz, h, h3⟩)
    ·exact Or.inl h
    ·rcases List.mem_cons.1 hz with rfl | hz
     ·exact absurd h h1
     ·exact Or.inr ⟨z, hz, h, h3⟩
end Go.Proofs.Ytoalffemjkkngaa.Pu
end
section
namespace Go.Proofs.Ytoalffemjkkngaa.Pu
set_option linter.unusedSimpArgs false
set_option linter.unusedVariables false
open Go.RowKit Go.Proofs.YtoalffemjkkngaaW.PrintWords Go.Proofs.Ytoalffemjkkngaa.PA
def cnt (s : Int → Bool) : Nat → Int → Int
 | 0, _ => 0
 | n + 1, a => (if s a = true then 1 else 0) + cnt s n (a + 1)
theorem cnt_add (s : Int → Bool) (n : Nat) : ∀ (m : Nat) (a : Int), cnt s (m + n) a = cnt s m a + cnt s n (a + m)
 | 0, a => by simp [cnt]
 | m + 1, a => by
  rw [show m + 1 + n = (m + n) + 1 by omega, cnt, cnt, cnt_add s n m (a + 1), show a + 1 + (m : Int) = a + ((m + 1 : Nat) : Int) by omega]
  omega
theorem cnt_none (s : Int → Bool) : ∀ (n : Nat) (a : Int), (∀ t, a ≤ t → t < a + n → s t = false) → cnt s n a = 0
 | 0, _, _ => rfl
 | n + 1, a, h => by
  rw [cnt, cnt_none s n (a + 1) (fun t h1 h2 => h t (by omega) (by omega)), h a (by omega) (by omega)]
  simp
theorem cnt_all (s : Int → Bool) : ∀ (n : Nat) (a : Int), (∀ t, a ≤ t → t < a + n → s t = true) → cnt s n a = n
 | 0, _, _ => rfl
 | n + 1, a, h => by
  rw [cnt, cnt_all s n (a + 1) (fun t h1 h2 => h t (by omega) (by omega)), h a (by omega) (by omega)]
  simp
  omega
def segL (s : Int → Bool) : List Int → Int
 | [] => 0
 | [_] => 0
 | a :: b :: r => (if s a = true then b - a else 0) + segL s (b :: r)
theorem seg_cnt (s : Int → Bool) (E : List Int) (H : ∀ u t, u ≤ t → (∀ e ∈ E, e ≤ u ∨ t < e) → s t = s u) (H1 : ∀ t, (∀ e ∈ E, e ≤ t) → s t = false) :
  ∀ (r : List Int) (a : Int), (∀ e ∈ E, e ≤ a ∨ e ∈ r) → (a :: r).Pairwise (· < ·) → (∀ e ∈ a :: r, e ≤ 20000) → segL s (a :: r) = cnt s (20000 - a).toNat a
 | [], a, h, hp, hb => by
  rw [segL, cnt_none]
  intro t h1 h2
  refine H1 t (fun e he => ?_)
  rcases h e he with h | h
  ·omega
  ·cases h
 | b :: r, a, h, hp, hb => by
  have hp2 := List.pairwise_cons.1 hp
  have hp3 := List.pairwise_cons.1 hp2.2
  have hab := hp2.1 b List.mem_cons_self
  have hbb := hb b (List.mem_cons_of_mem _ List.mem_cons_self)
  have ih := seg_cnt s E H H1 r b (fun e he => by
   rcases h e he with h | h
   ·exact Or.inl (by omega)
   ·rcases List.mem_cons.1 h with rfl | h
    ·exact Or.inl (Int.le_refl _)
    ·exact Or.inr h) hp2.2 (fun e he => hb e (List.mem_cons_of_mem _ he))
  have hc : ∀ t, a ≤ t → t < a + ((b - a).toNat : Int) → s t = s a := fun t h1 h2 => H a t h1 (fun e he => by
   rcases h e he with h | h
   ·exact Or.inl h
   ·rcases List.mem_cons.1 h with rfl | h
    ·exact Or.inr (by omega)
    ·have := hp3.1 e h
     exact Or.inr (by omega))
  rw [segL, ih, show (20000 - a).toNat = (b - a).toNat + (20000 - b).toNat by omega, cnt_add, show a + ((b - a).toNat : Int) = b by omega]
  cases hs : s a with
  | true =>
   rw [cnt_all s (b - a).toNat a (fun t h1 h2 => by rw [hc t h1 h2, hs])]
   simp only [if_true]
   omega
  | false =>
   rw [cnt_none s (b - a).toNat a (fun t h1 h2 => by rw [hc t h1 h2, hs])]
   simp
theorem seg_all (s : Int → Bool) (E : List Int) (H : ∀ u t, u ≤ t → (∀ e ∈ E, e ≤ u ∨ t < e) → s t = s u) (H1 : ∀ t, (∀ e ∈ E, e ≤ t) → s t = false) (H0 : ∀ t, (∀ e ∈ E, t < e) → s t = false)
  (hp : E.Pairwise (· < ·)) (hb : ∀ e ∈ E, 0 ≤ e ∧ e ≤ 20000) : segL s E = cnt s 20000 0 := by
 cases E with
 | nil =>
  rw [segL, cnt_none]
  intro t _ _
  exact H0 t (by simp)
 | cons a r =>
  have ha := hb a List.mem_cons_self
  have hp2 := List.pairwise_cons.1 hp
  rw [seg_cnt s (a :: r) H H1 r a (fun e he => by
   rcases List.mem_cons.1 he with rfl | he
   ·exact Or.inl (Int.le_refl _)
   ·exact Or.inr he) hp (fun e he => (hb e he).2), show (20000 : Nat) = a.toNat + (20000 - a).toNat by omega, cnt_add, cnt_none s a.toNat 0 (fun t h1 h2 => H0 t (fun e he => by
   rcases List.mem_cons.1 he with rfl | he
   ·omega
   ·have := hp2.1 e he
    omega)), show (0 : Int) + (a.toNat : Int) = a by omega]
  simp
def lone (T : List S53) (p : ByteArray) (t : Int) : Bool := T.any (sounds t) && T.all (fun x => !sounds t x || decide (x.f0 = p))
theorem lone_iff {T : List S53} {p : ByteArray} {t : Int} : lone T p t = true ↔ (∃ x ∈ T, sounds t x = true) ∧ ∀ x ∈ T, sounds t x = true → x.f0 = p := by
 unfold lone
 rw [Bool.and_eq_true, List.any_eq_true, List.all_eq_true]
 refine and_congr Iff.rfl ⟨fun h x hx hs => ?_, fun h x hx => ?_⟩
 ·have := h x hx
  rw [hs] at this
  simpa using this
 ·cases hs : sounds t x with
  | false => rfl
  | true => simp [h x hx hs]
theorem lone_same (T : List S53) (p : ByteArray) (u t : Int) (h : u ≤ t) (he : ∀ e ∈ endsL T [], e ≤ u ∨ t < e) : lone T p t = lone T p u := by
 have hs : ∀ x ∈ T, sounds t x = sounds u x := fun x hx => by
  have h1 := he x.f1 ((endsL_mem _ T []).2 (Or.inr ⟨x, hx, Or.inl rfl⟩))
  have h2 := he (x.f1 + x.f2) ((endsL_mem _ T []).2 (Or.inr ⟨x, hx, Or.inr rfl⟩))
  unfold sounds
  rw [decide_eq_decide]
  omega
 rw [Bool.eq_iff_iff, lone_iff, lone_iff]
 constructor
 ·rintro ⟨⟨x, hx, h1⟩, h2⟩
  exact ⟨⟨x, hx, by rw [← hs x hx]; exact h1⟩, fun y hy h3 => h2 y hy (by rw [hs y hy]; exact h3)⟩
 ·rintro ⟨⟨x, hx, h1⟩, h2⟩
  exact ⟨⟨x, hx, by rw [hs x hx]; exact h1⟩, fun y hy h3 => h2 y hy (by rw [← hs y hy]; exact h3)⟩
theorem lone_not (T : List S53) (p : ByteArray) (t : Int) (h : ∀ x ∈ T, sounds t x = false) : lone T p t = false := by
 cases hl : lone T p t with
 | false => rfl
 | true =>
  obtain ⟨⟨x, hx, h1⟩, _⟩ := lone_iff.1 hl
  rw [h x hx] at h1
  cases h1
theorem lone_count (T : List S53) (p : ByteArray) (hok : ∀ x ∈ T, turnOk x) : segL (lone T p) (endsL T []) = cnt (lone T p) 20000 0 := by
 refine seg_all (lone T p) (endsL T []) (lone_same T p) (fun t h => lone_not T p t (fun x hx => ?_)) (fun t h => lone_not T p t (fun x hx => ?_)) (endsL_sorted T [] List.Pairwise.nil) (fun e he => ?_)
 ·have h2 := h (x.f1 + x.f2) ((endsL_mem _ T []).2 (Or.inr ⟨x, hx, Or.inr rfl⟩))
  unfold sounds
  exact decide_eq_false (by omega)
 ·have h1 := h x.f1 ((endsL_mem _ T []).2 (Or.inr ⟨x, hx, Or.inl rfl⟩))
  unfold sounds
  exact decide_eq_false (by omega)
 ·rcases (endsL_mem _ T []).1 he with h | ⟨x, hx, h⟩
  ·cases h
  ·have := hok x hx
   unfold turnOk at this
   omega
theorem atL_lone (T : List S53) (p : ByteArray) (t : Int) : lone T p t = true ↔ atL t T [] = [p] := by
 obtain ⟨hn, hm⟩ := atL_wf t T [] List.nodup_nil
 have hm2 : ∀ y, y ∈ atL t T [] ↔ ∃ x ∈ T, sounds t x = true ∧ y = x.f0 := fun y => by rw [hm y]; simp
 rw [lone_iff]
 constructor
 ·rintro ⟨⟨x, hx, h1⟩, h2⟩
  have hall : ∀ y ∈ atL t T [], y = p := fun y hy => by
   obtain ⟨z, hz, h3, rfl⟩ := (hm2 y).1 hy
   exact h2 z hz h3
  have hmem : p ∈ atL t T [] := (hm2 p).2 ⟨x, hx, h1, (h2 x hx h1).symm⟩
  revert hn hall hmem
  generalize atL t T [] = A
  intro hn hall hmem
  match A with
  | [] => cases hmem
  | [a] => rw [hall a List.mem_cons_self]
  | a :: b :: r =>
   have ha := hall a List.mem_cons_self
   have hb := hall b (List.mem_cons_of_mem _ List.mem_cons_self)
   exact absurd (List.mem_cons.2 (Or.inl (ha.trans hb.symm))) (List.nodup_cons.1 hn).1
 ·intro h
  refine ⟨?_, fun x hx h1 => ?_⟩
  ·obtain ⟨x, hx, h1, _⟩ := (hm2 p).1 (by rw [h]; exact List.mem_cons_self)
   exact ⟨x, hx, h1⟩
  ·have h2 := (hm2 x.f0).2 ⟨x, hx, h1, rfl⟩
   rw [h] at h2
   simpa using h2
theorem upTo_pos {α : Type} [Inhabited α] [DecidableEq α] (d : Array α) : ∀ m : Nat, 1 ≤ (Lib.compactUpTo d (m + 1)).length
 | 0 => by rw [Lib.compactUpTo_succ]; simp [Lib.keeps]
 | m + 1 => by
  have := upTo_pos d m
  rw [Lib.compactUpTo_succ, List.length_append]
  omega
theorem upTo_one {α : Type} [Inhabited α] [DecidableEq α] (d : Array α) (q : α) : ∀ m : Nat, Lib.compactUpTo d (m + 1) = [q] ↔ ∀ j, j ≤ m → d[j]! = q
 | 0 => by
  have e : Lib.compactUpTo d (0 + 1) = [d[0]!] := by
   rw [Lib.compactUpTo_succ]
   simp [Lib.keeps, Lib.compactUpTo]
  rw [e]
  constructor
  ·intro h j hj
   obtain rfl : j = 0 := by omega
   injection h
  ·intro h
   rw [h 0 (Nat.le_refl _)]
 | m + 1 => by
  have hp := upTo_pos d m
  have ih := upTo_one d q m
  rw [Lib.compactUpTo_succ]
  by_cases hk : d[m + 1]! = d[m + 1 - 1]!
  ·rw [Lib.keeps_neg (by omega) hk]
   simp only [Bool.false_eq_true, if_false, List.append_nil]
   rw [ih]
   constructor
   ·intro h j hj
    by_cases e : j = m + 1
    ·subst e
     rw [hk]
     exact h _ (by omega)
    ·exact h j (by omega)
   ·intro h j hj
    exact h j (by omega)
  ·rw [Lib.keeps_pos hk]
   simp only [if_true]
   constructor
   ·intro h
    have h2 := congrArg List.length h
    rw [List.length_append, List.length_singleton, List.length_singleton] at h2
    omega
   ·intro h
    exact absurd ((h (m + 1) (Nat.le_refl _)).trans (h (m + 1 - 1) (by omega)).symm) hk
theorem compact_one {α : Type} [Inhabited α] [DecidableEq α] (zs : List α) (q : α) : Lib.compact zs = [q] ↔ zs ≠ [] ∧ ∀ z ∈ zs, z = q := by
 cases zs with
 | nil => simp [Lib.compact, Lib.compactUpTo]
 | cons a r =>
  have hg : ∀ j, j < (a :: r).length → (a :: r).toArray[j]! = (a :: r)[j]! := fun j hj => by simp
  unfold Lib.compact
  rw [List.length_cons, upTo_one]
  constructor
  ·intro h
   refine ⟨by simp, fun z hz => ?_⟩
   obtain ⟨j, hj, rfl⟩ := List.mem_iff_getElem.1 hz
   have h2 := h j (by rw [List.length_cons] at hj; omega)
   rw [hg j hj] at h2
   rw [← h2]
   exact (getElem!_pos (a :: r) j hj).symm
  ·rintro ⟨_, h⟩ j hj
   have hj2 : j < (a :: r).length := by rw [List.length_cons]; omega
   rw [hg j hj2]
   have h2 := h _ (List.getElem_mem hj2)
   rw [← h2]
   exact getElem!_pos (a :: r) j hj2
theorem compS_one (xs : List ByteArray) (p : ByteArray) : compS (sortS xs) = [p] ↔ xs ≠ [] ∧ ∀ x ∈ xs, x = p := by
 have hb : ∀ x : ByteArray, (⟨x.data.toList.toArray⟩ : ByteArray) = x := fun x => bytes_ext (by simp)
 have hperm := List.mergeSort_perm (xs.map (·.data.toList)) (fun x y => decide (x ≤ y))
 have hid : (sortS xs).map (·.data.toList) = (xs.map (·.data.toList)).mergeSort (fun x y => decide (x ≤ y)) := by
  unfold sortS
  rw [List.map_map]
  conv => rhs; rw [← List.map_id ((xs.map (·.data.toList)).mergeSort (fun x y => decide (x ≤ y)))]
  apply List.map_congr_left
  intro x _
  simp
 unfold compS
 rw [List.map_eq_singleton_iff, hid]
 constructor
 ·rintro ⟨q, hq, rfl⟩
  obtain ⟨h1, h2⟩ := (compact_one _ q).1 hq
  refine ⟨fun e => h1 ?_, fun x hx => ?_⟩
  ·subst e
   simp
  ·have h3 := h2 x.data.toList (hperm.mem_iff.2 (List.mem_map_of_mem hx))
   rw [← h3, hb]
 ·rintro ⟨h1, h2⟩
  refine ⟨p.data.toList, (compact_one _ _).2 ⟨fun e => h1 ?_, fun z hz => ?_⟩, hb p⟩
  ·have h3 := hperm.length_eq
   rw [e, List.length_map, List.length_nil] at h3
   exact List.eq_nil_of_length_eq_zero h3.symm
  ·obtain ⟨x, hx, rfl⟩ := List.mem_map.1 (hperm.mem_iff.1 hz)
   rw [h2 x hx]
theorem compS_lone (T : List S53) (p : ByteArray) (t : Int) : decide (compS (sortS ((T.filter (sounds t)).map fun x => x.f0)) = [p]) = lone T p t := by
 rw [Bool.eq_iff_iff, decide_eq_true_eq, compS_one, lone_iff]
 constructor
 ·rintro ⟨h1, h2⟩
  refine ⟨?_, fun x hx hs => h2 x.f0 (List.mem_map_of_mem (f := fun x : S53 => x.f0) (List.mem_filter.2 ⟨hx, hs⟩))⟩
  cases hf : T.filter (sounds t) with
  | nil => rw [hf] at h1; exact absurd rfl h1
  | cons a r =>
   have := List.mem_filter.1 (show a ∈ T.filter (sounds t) by rw [hf]; exact List.mem_cons_self)
   exact ⟨a, this.1, this.2⟩
 ·rintro ⟨⟨x, hx, hs⟩, h2⟩
  refine ⟨fun e => ?_, fun y hy => ?_⟩
  ·have := List.mem_map_of_mem (f := fun x : S53 => x.f0) (List.mem_filter.2 ⟨hx, hs⟩)
   rw [e] at this
   cases this
  ·obtain ⟨z, hz, rfl⟩ := List.mem_map.1 hy
   have := List.mem_filter.1 hz
   exact h2 z this.1 this.2
end Go.Proofs.Ytoalffemjkkngaa.Pu
end
section
namespace Go.Proofs.Ytoalffemjkkngaa.Pu
set_option linter.unusedSimpArgs false
set_option linter.unusedVariables false
open Go.RowKit Go.Proofs.YtoalffemjkkngaaW.PrintWords Go.Proofs.Ytoalffemjkkngaa.PA
theorem rdB_at (l : List ByteArray) (i : Nat) (h : i < l.length) : rdOf ByteArray.empty l (i : Int) = l[i] := by
 simp [rdOf, List.getD_eq_getElem?_getD, List.getElem?_eq_getElem h]
theorem names_l0 (out : List ByteArray) (n : ByteArray) (hl : out.length ≤ 1000) (d : Nat) : ∀ i : Nat, i + d = out.length → Ev (fun k => spec_l23Names.l0 k out n (i : Int)) (hasN (out.drop i) n) := by
 induction d with
 | zero =>
  intro i hi
  apply Ev_succ
  simp only [spec_l23Names.l0, if_neg (show ¬ ((i : Int) < (out.length : Int)) by omega), List.drop_of_length_le (show out.length ≤ i by omega)]
  exact Ev.now _
 | succ d ih =>
  intro i hi
  have hlt : i < out.length := by omega
  have h2 := ih (i + 1) (by omega)
  rw [show ((i + 1 : Nat) : Int) = (i : Int) + 1 by omega] at h2
  rw [List.drop_eq_getElem_cons hlt]
  apply Ev_succ
  simp only [spec_l23Names.l0, if_pos (show ((i : Int) < (out.length : Int)) by omega), if_pos (show 0 ≤ (i : Int) by omega), rdB_at out i hlt, wr (show -9223372036854775808 ≤ (i : Int) + 1 by omega) (by omega)]
  unfold hasN at h2 ⊢
  rw [List.any_cons]
  by_cases h : out[i].toList = n.toList
  ·simp only [if_pos h, decide_eq_true h, Bool.true_or]
   exact Ev.now _
  ·simp only [if_neg h, decide_eq_false h, Bool.false_or]
   exact h2
theorem names_eq (out : List ByteArray) (n : ByteArray) (hl : out.length ≤ 1000) : Ev (fun k => spec_l23Names.f k out n) (hasN out n) := by
 unfold spec_l23Names.f
 exact names_l0 out n hl out.length 0 (by omega)
theorem ins_l1 (T : List S53) (t : Int) (out : List ByteArray) (i : Int) (n : ByteArray) (f1 f2 : Int) (R : List ByteArray) (hl : out.length ≤ 1000)
  (hR : Ev (fun k => spec_l23At.l0 k T t (insN out n) (wrap64 (i + 1))) R) (d : Nat) :
  ∀ j : Nat, j + d = out.length → out.take j ++ insN (out.drop j) n = insN out n → Ev (fun k => spec_l23At.l1 k T t out i (j : Int) n f1 f2) R := by
 induction d with
 | zero =>
  intro j hj e
  have ht : (out.take j).length = j := by rw [List.length_take]; omega
  have hd : (out.drop j).length = out.length - j := List.length_drop
  rw [List.drop_of_length_le (show out.length ≤ j by omega), insN] at e
  apply Ev_succ
  simp only [spec_l23At.l1, if_neg (show ¬ ((j : Int) < (out.length : Int)) by omega), Option.bind_some, Int.toNat_natCast, List.nil_append, List.length_nil, List.length_append, List.length_singleton, ht, hd, Nat.zero_add, if_pos (show 0 ≤ (j : Int) by omega), if_pos (show (j : Int) ≤ (out.length : Int) by omega), if_pos (show j < 8796093022208 by omega), if_pos (show j + 1 + (out.length - j) < 8796093022208 by omega)]
  rw [List.drop_of_length_le (show out.length ≤ j by omega), List.append_nil, e]
  exact hR
 | succ d ih =>
  intro j hj e
  have hlt : j < out.length := by omega
  have ht : (out.take j).length = j := by rw [List.length_take]; omega
  have hd : (out.drop j).length = out.length - j := List.length_drop
  have e2 := e
  rw [List.drop_eq_getElem_cons hlt, insN] at e2
  apply Ev_succ
  simp only [spec_l23At.l1, if_pos (show ((j : Int) < (out.length : Int)) by omega), Option.bind_some, Int.toNat_natCast, List.nil_append, List.length_nil, List.length_append, List.length_singleton, ht, hd, Nat.zero_add, if_pos (show 0 ≤ (j : Int) by omega), if_pos (show (j : Int) ≤ (out.length : Int) by omega), if_pos (show j < 8796093022208 by omega), if_pos (show j + 1 + (out.length - j) < 8796093022208 by omega), rdB_at out j hlt, wr (show -9223372036854775808 ≤ (j : Int) + 1 by omega) (by omega)]
  by_cases h : Op.bytesLess out[j].toList n.toList = true
  ·rw [if_pos h] at e2
   simp only [if_pos h]
   have h2 := ih (j + 1) (by omega) (by rw [List.take_succ_eq_append_getElem hlt, List.append_assoc]; exact e2)
   rwa [show ((j + 1 : Nat) : Int) = (j : Int) + 1 by omega] at h2
  ·rw [if_neg h] at e2
   simp only [if_neg h]
   rw [List.drop_eq_getElem_cons hlt, List.append_assoc, List.singleton_append, e2]
   exact hR
theorem at_l0 (T : List S53) (t : Int) (hl : T.length ≤ 24) (hok : ∀ x ∈ T, turnOk x) (d : Nat) : ∀ (i : Nat) (out : List ByteArray), i + d = T.length → out.length ≤ i → Ev (fun k => spec_l23At.l0 k T t out (i : Int)) (atL t (T.drop i) out) := by
 induction d with
 | zero =>
  intro i out hi ho
  apply Ev_succ
  simp only [spec_l23At.l0, if_neg (show ¬ ((i : Int) < (T.length : Int)) by omega), List.drop_of_length_le (show T.length ≤ i by omega), atL]
  exact Ev.now _
 | succ d ih =>
  intro i out hi ho
  have hx := rdT_ok hok i (by omega)
  unfold turnOk at hx
  have w1 := wr (show -9223372036854775808 ≤ (i : Int) + 1 by omega) (by omega)
  have hskip : Ev (fun k => spec_l23At.j1 k T t out (i : Int) true (rd_T53 T (i : Int)).f0 (rd_T53 T (i : Int)).f1 (rd_T53 T (i : Int)).f2) (atL t (T.drop (i + 1)) out) := by
   have h2 := ih (i + 1) out (by omega) (by omega)
   rw [show ((i + 1 : Nat) : Int) = (i : Int) + 1 by omega] at h2
   apply Ev_succ
   simp only [spec_l23At.j1, if_true, w1]
   exact h2
  rw [dropT_rd T i (by omega), atL]
  apply Ev_succ
  simp only [spec_l23At.l0, l00In_eq, Option.bind_some, if_pos (show ((i : Int) < (T.length : Int)) by omega), if_pos (show 0 ≤ (i : Int) by omega), w1, wr (show -9223372036854775808 ≤ (rd_T53 T (i : Int)).f1 + (rd_T53 T (i : Int)).f2 by omega) (by omega), wr (show -9223372036854775808 ≤ (rd_T53 T (i : Int)).f1 + (rd_T53 T (i : Int)).f2 - 1 by omega) (by omega)]
  by_cases h1 : (rd_T53 T (i : Int)).f1 ≤ t ∧ t ≤ (rd_T53 T (i : Int)).f1 + (rd_T53 T (i : Int)).f2 - 1
  ·rw [show sounds t (rd_T53 T (i : Int)) = true from decide_eq_true h1]
   simp only [decide_eq_true h1, if_true]
   refine Ev.bind (names_eq _ _ (by omega)) ?_
   cases hh : hasN out (rd_T53 T (i : Int)).f0 with
   | true =>
    simp only [if_true]
    exact hskip
   | false =>
    simp only [Bool.false_eq_true, if_false]
    have hlen := (insN_perm (rd_T53 T (i : Int)).f0 out).length_eq
    rw [List.length_cons] at hlen
    have h2 := ih (i + 1) (insN out (rd_T53 T (i : Int)).f0) (by omega) (by omega)
    rw [show ((i + 1 : Nat) : Int) = (i : Int) + 1 by omega] at h2
    rw [← w1] at h2
    have h3 := ins_l1 T t out (i : Int) (rd_T53 T (i : Int)).f0 (rd_T53 T (i : Int)).f1 (rd_T53 T (i : Int)).f2 _ (by omega) h2 out.length 0 (by omega) (by simp)
    apply Ev_succ
    simp only [spec_l23At.j1, Bool.false_eq_true, if_false]
    exact h3
  ·rw [show sounds t (rd_T53 T (i : Int)) = false from decide_eq_false h1]
   simp only [decide_eq_false h1, Bool.false_eq_true, if_false]
   exact hskip
theorem at_eq (T : List S53) (t : Int) (hl : T.length ≤ 24) (hok : ∀ x ∈ T, turnOk x) : Ev (fun k => spec_l23At.f k T t) (atL t T []) := by
 unfold spec_l23At.f
 exact at_l0 T t hl hok T.length 0 [] (by omega) (by simp)
theorem solo_l1 (T : List S53) (p : ByteArray) (hl : T.length ≤ 24) (hok : ∀ x ∈ T, turnOk x) (E : List Int) (hE : E.length ≤ 100) (hb : ∀ e ∈ E, 0 ≤ e ∧ e ≤ 20000) (d : Nat) :
  ∀ (i : Nat) (acc : Int), 1 ≤ i → i ≤ 1000 → E.length - i = d → -20000 * (i : Int) ≤ acc → acc ≤ 20000 * (i : Int) → Ev (fun k => spec_SoloTime.l1 k T p E acc (i : Int)) (acc + segL (lone T p) (E.drop (i - 1)), 0) := by
 induction d with
 | zero =>
  intro i acc h1 h4 hi h2 h3
  apply Ev_succ
  have e : segL (lone T p) (E.drop (i - 1)) = 0 := by
   have hlen : (E.drop (i - 1)).length ≤ 1 := by rw [List.length_drop]; omega
   match E.drop (i - 1), hlen with
   | [], _ => rfl
   | [_], _ => rfl
   | _ :: _ :: _, h => simp at h
  simp only [spec_SoloTime.l1, if_neg (show ¬ ((i : Int) < (E.length : Int)) by omega), e, Int.add_zero]
  exact Ev.now _
 | succ d ih =>
  intro i acc h1 h4 hi h2 h3
  obtain ⟨j, rfl⟩ : ∃ j, i = j + 1 := ⟨i - 1, by omega⟩
  have hj : j < E.length := by omega
  have hj1 : j + 1 < E.length := by omega
  have hbj := hb _ (List.getElem_mem hj)
  have hbj1 := hb _ (List.getElem_mem hj1)
  have r1 : rd E ((j : Int) + 1) = E[j + 1] := by
   have := rdI_at E (j + 1) hj1
   rwa [show ((j + 1 : Nat) : Int) = (j : Int) + 1 by omega] at this
  have hseg : segL (lone T p) (E.drop j) = (if lone T p E[j] = true then E[j + 1] - E[j] else 0) + segL (lone T p) (E.drop (j + 1)) := by
   rw [List.drop_eq_getElem_cons hj, List.drop_eq_getElem_cons hj1, segL]
  have hnext : ∀ a : Int, -20000 * ((j + 1 + 1 : Nat) : Int) ≤ a → a ≤ 20000 * ((j + 1 + 1 : Nat) : Int) → Ev (fun k => spec_SoloTime.l1 k T p E a ((j : Int) + 1 + 1)) (a + segL (lone T p) (E.drop (j + 1)), 0) := fun a ha hb => by
   have := ih (j + 1 + 1) a (by omega) (by omega) (by omega) ha hb
   rwa [show ((j + 1 + 1 : Nat) : Int) = (j : Int) + 1 + 1 by omega] at this
  rw [show j + 1 - 1 = j by omega, hseg]
  apply Ev_succ
  simp only [spec_SoloTime.l1, show ((j + 1 : Nat) : Int) = (j : Int) + 1 by omega, if_pos (show ((j : Int) + 1 < (E.length : Int)) by omega), Int.add_sub_cancel, wr (show -9223372036854775808 ≤ (j : Int) by omega) (by omega), if_pos (show 0 ≤ (j : Int) by omega), if_pos (show (j : Int) < (E.length : Int) by omega), rdI_at E j hj, r1, wr (show -9223372036854775808 ≤ (j : Int) + 1 + 1 by omega) (by omega), wr (show -9223372036854775808 ≤ E[j + 1] - E[j] by omega) (by omega), wr (show -9223372036854775808 ≤ acc + (E[j + 1] - E[j]) by omega) (by omega), if_pos (show 0 ≤ (j : Int) + 1 by omega)]
  refine Ev.bind (at_eq T E[j] hl hok) ?_
  have hlo := atL_lone T p E[j]
  by_cases hs : lone T p E[j] = true
  ·have e := hlo.1 hs
   have e0 : rdOf ByteArray.empty [p] 0 = p := rfl
   simp only [e, e0, List.length_singleton, if_pos (show ((1 : Nat) : Int) = 1 from rfl), if_pos (show (0 : Int) < ((1 : Nat) : Int) by omega), if_true, if_pos hs]
   have := hnext (acc + (E[j + 1] - E[j])) (by omega) (by omega)
   exact Go_Ev_cast this (by rw [Int.add_assoc])
  ·simp only [if_neg hs, Int.zero_add]
   have hn := hnext acc (by omega) (by omega)
   revert hlo
   generalize atL E[j] T [] = A
   intro hlo
   by_cases hA : (A.length : Int) = 1
   ·match A, hA with
    | [q], _ =>
     have e0 : rdOf ByteArray.empty [q] 0 = q := rfl
     have hq : ¬ q.toList = p.toList := fun h => hs (hlo.2 (by rw [toList_inj h]))
     simp only [e0, List.length_singleton, if_pos (show ((1 : Nat) : Int) = 1 from rfl), if_pos (show (0 : Int) < ((1 : Nat) : Int) by omega), if_neg hq]
     exact hn
   ·simp only [if_neg hA]
    exact hn
theorem solo_l0 (T : List S53) (p : ByteArray) (hl : T.length ≤ 24) (E : List Int) (R : Int × Int) (d : Nat) : ∀ (i : Nat) (fl : Bool), i + d = T.length →
  ((fl || (T.drop i).any fun x => x.f0.toList == p.toList) = true → Ev (fun k => spec_SoloTime.l1 k T p E 0 1) R) → ((fl || (T.drop i).any fun x => x.f0.toList == p.toList) = false → R = (0, 3)) → Ev (fun k => spec_SoloTime.l0 k T p E 0 fl (i : Int)) R := by
 induction d with
 | zero =>
  intro i fl hi ht hf
  apply Ev_succ
  rw [List.drop_of_length_le (show T.length ≤ i by omega)] at ht hf
  simp only [List.any_nil, Bool.or_false] at ht hf
  simp only [spec_SoloTime.l0, if_neg (show ¬ ((i : Int) < (T.length : Int)) by omega)]
  cases fl with
  | true =>
   simp only [if_true]
   exact ht rfl
  | false =>
   simp only [Bool.false_eq_true, if_false]
   rw [hf rfl]
   exact Ev.now _
 | succ d ih =>
  intro i fl hi ht hf
  rw [dropT_rd T i (by omega), List.any_cons] at ht hf
  apply Ev_succ
  simp only [spec_SoloTime.l0, if_pos (show ((i : Int) < (T.length : Int)) by omega), if_pos (show 0 ≤ (i : Int) by omega), wr (show -9223372036854775808 ≤ (i : Int) + 1 by omega) (by omega)]
  cases fl with
  | true =>
   simp only [if_true]
   have h2 := ih (i + 1) true (by omega) (fun _ => ht rfl) (fun h => by simp at h)
   rwa [show ((i + 1 : Nat) : Int) = (i : Int) + 1 by omega] at h2
  | false =>
   simp only [Bool.false_eq_true, if_false]
   have h2 := ih (i + 1) ((rd_T53 T (i : Int)).f0.toList == p.toList) (by omega) (by rw [Bool.false_or] at ht; exact ht) (by rw [Bool.false_or] at hf; exact hf)
   rwa [show ((i + 1 : Nat) : Int) = (i : Int) + 1 by omega] at h2
def soloR (T : List S53) (p : ByteArray) : Int × Int := if okTs T = true then (if (T.any fun x => x.f0.toList == p.toList) = true then (cnt (lone T p) 20000 0, 0) else (0, 3)) else (0, 1)
theorem spec_eq (T : List S53) (p : ByteArray) (hl : T.length ≤ 1048576) (hn : ∀ x ∈ T, x.f0.size ≤ 1048576) : Ev (fun k => spec_SoloTime.f k T p) (soloR T p) := by
 unfold spec_SoloTime.f soloR
 refine Ev.bind (l23Ok_eq T hl hn) ?_
 cases hv : okTs T with
 | false =>
  simp only [Bool.false_eq_true, if_false]
  exact Ev.now _
 | true =>
  obtain ⟨hl2, hok⟩ := okTs_wf hv
  simp only [if_true]
  have hE := endsL_length T []
  refine Ev.bind (ends_eq T hl2 hok) ?_
  refine solo_l0 T p hl2 (endsL T []) _ T.length 0 false (by omega) (fun h => ?_) (fun h => ?_)
  ·rw [Bool.false_or, List.drop_zero] at h
   rw [if_pos h, ← lone_count T p hok]
   have h2 := solo_l1 T p hl2 hok (endsL T []) (by rw [List.length_nil] at hE; omega) (fun e he => by
    rcases (endsL_mem _ T []).1 he with h | ⟨x, hx, h⟩
    ·cases h
    ·have := hok x hx
     omega) _ 1 0 (Nat.le_refl _) (by omega) rfl (by omega) (by omega)
   exact Go_Ev_cast h2 (by simp)
  ·rw [Bool.false_or, List.drop_zero] at h
   rw [if_neg (by rw [h]; simp)]
theorem playersAt_l0 (T : List S53) (t : Int) (hl : T.length ≤ 24) (hok : ∀ x ∈ T, turnOk x) (d : Nat) : ∀ (i : Nat) (acc : List ByteArray), i + d = T.length → acc.length ≤ i → Ev (fun k => impl_playersAt.l0 k t acc T (T.length : Int) (i : Int)) (acc ++ ((T.drop i).filter (sounds t)).map fun x => x.f0) := by
 induction d with
 | zero =>
  intro i acc hi ha
  apply Ev_succ
  simp only [impl_playersAt.l0, if_neg (show ¬ ((i : Int) < (T.length : Int)) by omega), List.drop_of_length_le (show T.length ≤ i by omega), List.filter_nil, List.map_nil, List.append_nil]
  exact Ev.now _
 | succ d ih =>
  intro i acc hi ha
  have hx := rdT_ok hok i (by omega)
  unfold turnOk at hx
  rw [dropT_rd T i (by omega), List.filter_cons]
  apply Ev_succ
  simp only [impl_playersAt.l0, impl_Turn_end.f, within_eq, Option.bind_some, if_pos (show ((i : Int) < (T.length : Int)) by omega), if_pos (show 0 ≤ (i : Int) by omega), wr (show -9223372036854775808 ≤ (i : Int) + 1 by omega) (by omega), wr (show -9223372036854775808 ≤ (rd_T53 T (i : Int)).f1 + (rd_T53 T (i : Int)).f2 by omega) (by omega), wr (show -9223372036854775808 ≤ (rd_T53 T (i : Int)).f1 + (rd_T53 T (i : Int)).f2 - 1 by omega) (by omega)]
  by_cases h1 : (rd_T53 T (i : Int)).f1 ≤ t ∧ t ≤ (rd_T53 T (i : Int)).f1 + (rd_T53 T (i : Int)).f2 - 1
  ·rw [show sounds t (rd_T53 T (i : Int)) = true from decide_eq_true h1]
   simp only [decide_eq_true h1, if_true, if_pos (show acc.length < 8796093022208 by omega)]
   have h2 := ih (i + 1) (acc ++ [(rd_T53 T (i : Int)).f0]) (by omega) (by rw [List.length_append, List.length_singleton]; omega)
   rw [show ((i + 1 : Nat) : Int) = (i : Int) + 1 by omega] at h2
   exact Go_Ev_cast h2 (by simp)
  ·rw [show sounds t (rd_T53 T (i : Int)) = false from decide_eq_false h1]
   simp only [decide_eq_false h1, Bool.false_eq_true, if_false]
   have h2 := ih (i + 1) acc (by omega) (by omega)
   rwa [show ((i + 1 : Nat) : Int) = (i : Int) + 1 by omega] at h2
theorem playersAt_eq (T : List S53) (t : Int) (hl : T.length ≤ 24) (hok : ∀ x ∈ T, turnOk x) : Ev (fun k => impl_playersAt.f k T t) (compS (sortS ((T.filter (sounds t)).map fun x => x.f0))) := by
 unfold impl_playersAt.f
 have h0 : Ev (fun k => impl_playersAt.g k T t) ((T.filter (sounds t)).map fun x => x.f0) := by
  unfold impl_playersAt.g
  exact playersAt_l0 T t hl hok T.length 0 [] (by omega) (by simp)
 refine Ev.bind h0 ?_
 have hlen : ((T.filter (sounds t)).map fun x => x.f0).length ≤ 1000000 := by
  rw [List.length_map]
  have := List.length_filter_le (sounds t) T
  omega
 simp only [if_pos hlen]
 exact Ev.now _
theorem iSolo_l0 (T : List S53) (p : ByteArray) (hl : T.length ≤ 24) (hok : ∀ x ∈ T, turnOk x) (d : Nat) : ∀ (t acc : Int), 0 ≤ t → t + (d : Int) = 20000 → 0 ≤ acc → acc ≤ t → Ev (fun k => impl_SoloTime.l0 k T p acc t) (acc + cnt (lone T p) d t, 0) := by
 induction d with
 | zero =>
  intro t acc h0 h1 h2 h3
  apply Ev_succ
  simp only [impl_SoloTime.l0, if_neg (show ¬ (t < 20000) by omega), cnt, Int.add_zero]
  exact Ev.now _
 | succ d ih =>
  intro t acc h0 h1 h2 h3
  apply Ev_succ
  simp only [impl_SoloTime.l0, if_pos (show t < 20000 by omega), wr (show -9223372036854775808 ≤ t + 1 by omega) (by omega), wr (show -9223372036854775808 ≤ acc + 1 by omega) (by omega)]
  refine Ev.bind (playersAt_eq T t hl hok) ?_
  rw [compS_lone, cnt]
  by_cases hs : lone T p t = true
  ·simp only [if_pos hs]
   exact Go_Ev_cast (ih (t + 1) (acc + 1) (by omega) (by omega) (by omega) (by omega)) (by rw [Int.add_assoc])
  ·simp only [if_neg hs, Int.zero_add]
   exact ih (t + 1) acc (by omega) (by omega) (by omega) (by omega)
theorem impl_eq (T : List S53) (p : ByteArray) (hl : T.length ≤ 1048576) (hn : ∀ x ∈ T, x.f0.size ≤ 1048576) : Ev (fun k => impl_SoloTime.f k T p) (soloR T p) := by
 unfold impl_SoloTime.f soloR
 refine Ev.bind (ValidTurns_eq T hl hn) ?_
 cases hv : okTs T with
 | false =>
  simp only [Bool.false_eq_true, if_false]
  exact Ev.now _
 | true =>
  obtain ⟨hl2, hok⟩ := okTs_wf hv
  simp only [if_true, if_pos (show T.length ≤ 2000000 by omega)]
  by_cases h : (T.any fun x => x.f0.toList == p.toList) = true
  ·simp only [if_pos h]
   exact Go_Ev_cast (iSolo_l0 T p hl2 hok 20000 0 0 (by omega) (by omega) (by omega) (by omega)) (by rw [Int.zero_add])
  ·simp only [if_neg h]
   exact Ev.now _
theorem lawW (l : List S42) (p : ByteArray) (hl : l.length ≤ 9223372036854775807 ∧ ∀ x ∈ l, x.f0.size ≤ 9223372036854775807 ∧ (Lit.int .i64 x.f1).wf = true ∧ (Lit.int .i64 x.f2).wf = true) (hp : p.size ≤ 9223372036854775807) : ∃ n, laws_FnExactSoloTime.f n l p = some true := by
 have hz : Ev (fun n => laws_FnExactSoloTime.f n l p) true := by
  unfold laws_FnExactSoloTime.f
  by_cases h0 : (p.size : Int) > 1048576
  ·simp only [if_pos h0]
   exact Ev.now _
  ·simp only [if_neg h0]
   obtain ⟨r, hr, hle, hw⟩ := szTurnS_eq l hl.1 (fun x hx => (hl.2 x hx).1) 1048576 (by omega) (by omega)
   refine Ev.bind hr ?_
   by_cases h1 : r < 0
   ·simp only [if_pos h1]
    exact Ev.now _
   ·simp only [if_neg h1]
    obtain ⟨hlen, hns⟩ := hw (by omega)
    have hlm : (l.map cTurn).length ≤ 1048576 := by rw [List.length_map]; exact hlen
    have hnm : ∀ x ∈ l.map cTurn, x.f0.size ≤ 1048576 := fun x hx => by
     obtain ⟨y, hy, rfl⟩ := List.mem_map.1 hx
     exact hns y hy
    refine Ev.bind (toTurnS_eq l hlen) ?_
    refine Ev.bind (spec_eq _ p hlm hnm) ?_
    refine Ev.bind (toTurnS_eq l hlen) ?_
    refine Ev.bind (impl_eq _ p hlm hnm) ?_
    simp only [if_true, bne_self_eq_false]
    apply Ev_succ
    simp only [laws_FnExactSoloTime.j0, Bool.false_eq_true, if_false]
    refine Ev.bind (toTurnS_eq l hlen) ?_
    refine Ev.bind (eqTurnS_eq _ hlm) ?_
    simp only [if_true]
    exact Ev.now _
 exact hz.rounds
end Go.Proofs.Ytoalffemjkkngaa.Pu
end
section
namespace Go.Proofs.Ytoalffemjkkngaa.fnExactSoloTime
open Go.ChangeShapes Go.WideShapes Go.ChangeAt Go.RowKit Go.Proofs.YtoalffemjkkngaaY Go.Proofs.YtoalffemjkkngaaW.PrintWords Go.Proofs.Ytoalffemjkkngaa.PA
open Go.ChangeMaps (open_string shut_string)
set_option linter.unusedVariables false
theorem own : ownKnob Try.prog.godebug = none := by kernel_rfl
theorem laidOut : laidOutB Try.prog = true := by kernel_rfl
theorem op42 {w : World} : Opens Try.prog w 42 k42 (fun b => (b.f0.size ≤ 9223372036854775807 ∧ (Lit.int .i64 b.f1).wf = true ∧ (Lit.int .i64 b.f2).wf = true)) := Opens.struct (P := Try.prog) (w := w) (f := fun x : S42 => (x.f0, x.f1, x.f2)) (fun a => S42.mk a.1 a.2.1 a.2.2) (fun _ => rfl) Try.underlying42 (by kernel_rfl) (OpensL.cons (Opens.string (w := w) Try.underlying9 (by kernel_rfl)) rfl (OpensL.cons (Opens.int (w := w) Try.underlying2 (by kernel_rfl)) rfl (OpensL.last (Opens.int (w := w) Try.underlying2 (by kernel_rfl)) rfl)))
set_option maxRecDepth 100000 in
theorem lifted (os : Os) (started : os.Started) (H : Type) (enc : TypeId × Value → H) :
  ReturnsInHanded {} Try.checked os 4 .any (Rows.fnExactSoloTimeSpec.pre6 enc Try.prog Try.f4 Rows.fnExactSoloTimeRow.domain false)
   (Rows.fnExactSoloTimeSpec.post enc Try.prog Try.f4 false true false false) := by
 refine returnsInHanded_of_change_sized (C := Try.checked) own started (by kernel_rfl) Try.func4
  (ChangeSpec.witness6 (enc := enc) (C := Try.checked) false ⟨#[], #[.slice none 0 0, .string ⟨#[]⟩], []⟩ 8 (by kernel_rfl) (by kernel_rfl) (by kernel_rfl) (by kernel_rfl)) ?_
 intro W base args ds gs before hval0 hW _ hsz0 _
 have hval : ∀ (j : Nat) t v, Try.f4.params[j]? = some t → args[j]? = some v → Value.okWide Try.prog W .any base t v := hval0
 have hW' := hW
 obtain ⟨p, q, hA0, hV, rfl, hfz, hnd⟩ := hW
 have hA : DataW.TrodAll enc Try.prog W 0 (fun _ => true) true Try.f4.params.toList args.toList ds p := hA0
 rw [Try.params4] at hA hval
 obtain ⟨v0, vs0, d0, ds0, p0, q0, hargs, rfl, rfl, h0, r0⟩ := trodAll_cons hA
 obtain ⟨v1, vs1, d1, ds1, p1, q1, rfl, rfl, rfl, h1, r1⟩ := trodAll_cons r0
 obtain ⟨rfl, rfl, rfl⟩ := trodAll_nil r1
 obtain rfl : args = #[v0, v1] := by cases args; simp_all
 obtain ⟨rfl, rfl⟩ := trodVars_none hV
 have k0 := h0
 have lt0 : ∀ x ∈ p0, x.block < W.heap.size := by obtain ⟨m, hm⟩ := k0; exact DataW.trod_lt m _ _ _ hm
 obtain ⟨a0, len0, cap0, rfl⟩ := okWide_slice Try.underlying22 (hval 0 22 v0 rfl rfl)
 obtain ⟨fu0, hf0⟩ := h0
 obtain ⟨y0, ⟨A0, c0, e0, hc0, hr0⟩, w0⟩ := (Opens.slice (w := W) Try.underlying22 (by kernel_rfl) (op42 (w := W))).2 _ _ _ _ _ _ _ _ hf0
 simp only [Value.cells, List.cons.injEq, Value.slice.injEq, and_true] at e0
 obtain ⟨rfl, rfl, rfl⟩ := e0
 have k1 := h1
 have lt1 : ∀ x ∈ p1, x.block < W.heap.size := by obtain ⟨m, hm⟩ := k1; exact DataW.trod_lt m _ _ _ hm
 obtain ⟨y1, rfl, rfl, rfl, w1⟩ := open_string Try.underlying9 (hval 1 9 v1 rfl rfl) h1
 clear hA0 hval0 hsz0
 obtain ⟨k, hk⟩ := Pu.lawW y0 y1 w0 w1
 refine (laws_FnExactSoloTime.calls k a0 cap0 y0 y1 true W hr0 hc0  hk).mono fun e W' ⟨he, bel⟩ => ?_
 subst he
 exact ⟨_, rfl, _, _, _, [], _, [], hW', trodAll_mk1 (shut_bool (show Try.prog.underlying 4 = some .bool by kernel_rfl) _), (trodAll_cons_mk (Below.trod laidOut (by kernel_rfl) (of_decide_eq_true (by kernel_rfl)) k0 bel lt0) (trodAll_cons_mk (Below.trod laidOut (by kernel_rfl) (of_decide_eq_true (by kernel_rfl)) k1 bel lt1) trodAll_mk0)), rfl, bel.frame _, fun h => by cases h⟩
theorem over : Rows.fnExactSoloTimeRow.holds Try.pinned (OpenSpec.ofChange Rows.fnExactSoloTimeSpec) :=
 OpenClaim.holds_of_wide 4 Try.f4 rfl rfl rfl rfl rfl rfl rfl ⟨rfl, rfl, rfl, rfl, rfl⟩ rfl rfl rfl rfl rfl (by kernel_rfl) Try.func4 (by kernel_rfl)
  (of_decide_eq_true (by kernel_rfl)) (by unfold Func.isWrapper; first | (rw [if_pos (by decide +kernel)]; kernel_rfl) | (rw [if_neg (by decide +kernel)]; exact ⟨rfl, rfl⟩))
  (fun os started H enc _ => lifted os started H enc)
end Go.Proofs.Ytoalffemjkkngaa.fnExactSoloTime
namespace Go.Proofs.Ytoalffemjkkngaa
theorem fnExactSoloTime_row_holds : Rows.FnExactSoloTimeSaid := fnExactSoloTime.over
end Go.Proofs.Ytoalffemjkkngaa
end
#print axioms Go.Proofs.Ytoalffemjkkngaa.fnExactSoloTime_row_holds
