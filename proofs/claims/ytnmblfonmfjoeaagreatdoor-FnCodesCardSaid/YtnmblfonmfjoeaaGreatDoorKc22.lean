/- Lemmas for the row. -/
import Derived.Test.YtnmblfonmfjoeaaGreatDoorKc21
namespace Go.Proofs.YtnmblfonmfjoeaaGreatDoor
open Go.RowKit
set_option linter.unusedVariables false
def IntP (w : World) (G : Nat → Prop) (cells : List Value) (z : Int) : Prop := cells = [.int .i64 z] ∧ i64in z
abbrev IntRowO (w : World) (F : Nat → Prop) (A : Option Addr) (l : List Int) : Prop := RowOf IntP w F 1 A l
abbrev InsRowO (w : World) (F : Nat → Prop) (A : Option Addr) (l : List Ic) : Prop := RowOf IcP w F 7 A l
theorem IntP.keepP : ∀ w w' G cells x, IntP w G cells x → (∀ b, G b → w'.heap[b]? = w.heap[b]?) → IntP w' G cells x := fun _ _ _ _ _ h _ => h
theorem IntRowO.keep {w w' : World} {F : Nat → Prop} {A : Option Addr} {l : List Int} (h : IntRowO w F A l) (hk : ∀ b, F b → w'.heap[b]? = w.heap[b]?) : IntRowO w' F A l := RowOf.keepR IntP.keepP h hk
theorem InsRowO.keep {w w' : World} {F : Nat → Prop} {A : Option Addr} {l : List Ic} (h : InsRowO w F A l) (hk : ∀ b, F b → w'.heap[b]? = w.heap[b]?) : InsRowO w' F A l := RowOf.keepR IcP.keepP h hk
theorem IntRowO.rd {w : World} {F : Nat → Prop} {A : Option Addr} {l : List Int} (h : IntRowO w F A l) : Rd w 1 A l.length (l.map (Value.int .i64)) ∧ ∀ z ∈ l, i64in z := by
 obtain ⟨cs, G, row, hx⟩ := h
 constructor
 ·have e : cs = l.map (Value.int .i64) := by
   apply List.ext_getElem
   ·rw [row.1.1]; simp
   ·intro i h1 h2
    rw [row.1.1] at h1
    have hi : i < l.length := by omega
    have := (hx i hi).1
    have h3 : ((cs.drop (i * 1)).take 1)[0]? = some (Value.int .i64 l[i]) := by rw [this]; rfl
    rw [List.getElem?_take, if_pos (by omega), List.getElem?_drop, Nat.mul_one, Nat.add_zero] at h3
    rw [List.getElem?_eq_getElem (by omega)] at h3
    injection h3 with h3
    rw [h3]; simp
  rw [← e]; exact row.1
 ·intro z hz
  obtain ⟨i, hi, rfl⟩ := List.getElem_of_mem hz
  exact (hx i hi).2
theorem IcP.is {w : World} {G : Nat → Prop} {cells : List Value} {i : Ic} (h : IcP w G cells i) : ∃ x : V7, cells = x.cells ∧ IcIs AnyB w x i := by
 obtain ⟨x, e, a, b, c, d, f, g, t⟩ := h
 exact ⟨x, e, a, b, c, d, f, g, t.any⟩
theorem InsRowO.any {w : World} {F : Nat → Prop} {A : Option Addr} {l : List Ic} (h : InsRowO w F A l) : IcRow AnyB w A l := by
 obtain ⟨cs, G, row, hx⟩ := h
 obtain ⟨xs, hl, hxs⟩ := list_of l.length (fun i (x : V7) => (cs.drop (i * 7)).take 7 = x.cells ∧ ∀ h : i < l.length, IcIs AnyB w x l[i]) (fun i hi => by obtain ⟨x, e, r⟩ := (hx i hi).is; exact ⟨x, e, fun _ => r⟩)
 refine ⟨xs, hl, ?_, fun _ _ _ _ => trivial, fun i h h' => (hxs i h').2 h⟩
 have e : cs = xs.flatMap V7.cells := by
  apply List.ext_getElem?
  intro j
  by_cases hj : j < l.length * 7
  ·have e1 : j = (j / 7) * 7 + j % 7 := by omega
   have hk : j / 7 < xs.length := by omega
   rw [e1, chunk_get (by omega) (hxs _ hk).1, flat_get V7.cells 7 v7_len _ _ _ hk (by omega)]
  ·rw [List.getElem?_eq_none (by rw [row.1.1]; omega), List.getElem?_eq_none (by rw [flat_length V7.cells 7 v7_len]; omega)]
 rw [← e, hl]; exact row.1
def CdO (w : World) (F : Nat → Prop) (x : V5) (p : Cd) : Prop := ∃ H : Nat → Nat → Prop, (∀ i b, H i b → F b) ∧ (∀ i j b, i ≠ j → H i b → H j b → False) ∧
 (p.globals.length ≤ x.gc ∧ x.gc ≤ maxLen ∧ StrRowO w (H 0) x.gA p.globals) ∧ (p.locks.length ≤ x.lc ∧ x.lc ≤ maxLen ∧ StrRowO w (H 1) x.lA p.locks) ∧ (p.procs.length ≤ x.pc ∧ x.pc ≤ maxLen ∧ StrRowO w (H 2) x.pA p.procs) ∧
 (p.entry.length ≤ x.ec ∧ x.ec ≤ maxLen ∧ IntRowO w (H 3) x.eA p.entry) ∧ (p.ins.length ≤ x.ic ∧ x.ic ≤ maxLen ∧ InsRowO w (H 4) x.iA p.ins)
theorem CdO.any {w : World} {F : Nat → Prop} {x : V5} {p : Cd} (h : CdO w F x p) : CdIs w x p := by
 obtain ⟨H, _, _, ⟨a1, a2, a3⟩, ⟨b1, b2, b3⟩, ⟨c1, c2, c3⟩, ⟨d1, d2, d3⟩, ⟨e1, e2, e3⟩⟩ := h
 exact ⟨a1, a2, a3.rd.1, a3.rd.2, b1, b2, b3.rd.1, b3.rd.2, c1, c2, c3.rd.1, c3.rd.2, d1, d2, d3.rd.1, d3.rd.2, e1, e2, e3.any⟩
theorem CdO.keep {w w' : World} {F : Nat → Prop} {x : V5} {p : Cd} (h : CdO w F x p) (hk : ∀ b, F b → w'.heap[b]? = w.heap[b]?) : CdO w' F x p := by
 obtain ⟨H, s, d, ⟨a1, a2, a3⟩, ⟨b1, b2, b3⟩, ⟨c1, c2, c3⟩, ⟨d1, d2, d3⟩, ⟨e1, e2, e3⟩⟩ := h
 exact ⟨H, s, d, ⟨a1, a2, a3.keep fun b h => hk b (s 0 b h)⟩, ⟨b1, b2, b3.keep fun b h => hk b (s 1 b h)⟩, ⟨c1, c2, c3.keep fun b h => hk b (s 2 b h)⟩, ⟨d1, d2, d3.keep fun b h => hk b (s 3 b h)⟩, ⟨e1, e2, e3.keep fun b h => hk b (s 4 b h)⟩⟩
theorem CdO.sub {w : World} {F F' : Nat → Prop} {x : V5} {p : Cd} (h : CdO w F x p) (hF : ∀ b, F b → F' b) : CdO w F' x p := by
 obtain ⟨H, s, d, r⟩ := h
 exact ⟨H, fun i b hb => hF b (s i b hb), d, r⟩
theorem shapeB_kind {k : Int} {nm se ok zr be ee : Bool} (h : shapeB k nm se ok zr be ee = true) : (1 ≤ k ∧ k ≤ 8) ∧ (k ≠ 2 → ee = true) ∧ (k ≠ 2 → k ≠ 3 → be = true) := by
 unfold shapeB at h
 split at h
 ·simp at h; exact ⟨by omega, fun _ => h.2, fun _ _ => h.1.2⟩
 ·split at h
  ·exact ⟨by omega, fun h => absurd ‹_› h, fun h => absurd ‹_› h⟩
  ·split at h
   ·simp at h; exact ⟨by omega, fun _ => h.2, fun _ h => absurd ‹_› h⟩
   ·split at h
    ·simp at h; exact ⟨by omega, fun _ => h.2, fun _ _ => h.1.2⟩
    ·split at h
     ·simp at h; exact ⟨by omega, fun _ => h.2, fun _ _ => h.1.2⟩
     ·cases h
theorem len_zero {α : Type} {l : List α} (h : ((l.length : Int) == 0) = true) : l = [] := by
 rw [beq_iff_eq] at h
 exact List.length_eq_zero_iff.1 (by omega)
mutual
theorem rightG_kd : ∀ (deep : Nat) (g : St), rightG deep g = true → kdT g
 | deep, .mk k s t b e, h => by
  rw [rightG_mk, Bool.and_eq_true] at h
  obtain ⟨h1, h2⟩ := h
  rw [shapeG] at h1
  obtain ⟨hk, he, hb⟩ := shapeB_kind h1
  rw [kdT]
  by_cases hm : manyB k = true
  ·rw [if_pos hm, Bool.and_eq_true, Bool.and_eq_true] at h2
   exact ⟨hk.1, hk.2, rightGs_kd (deep - 1) b h2.1.2, rightGs_kd (deep - 1) e h2.2⟩
  ·have h3 : k ≠ 2 ∧ k ≠ 3 := by simpa [manyB] using hm
   have e1 := len_zero (hb h3.1 h3.2)
   have e2 := len_zero (he h3.1)
   refine ⟨hk.1, hk.2, ?_, ?_⟩
   ·rw [e1, kdSs]; trivial
   ·rw [e2, kdSs]; trivial
theorem rightGs_kd : ∀ (deep : Nat) (l : List St), rightGs deep l = true → kdSs l
 | deep, [], _ => by rw [kdSs]; trivial
 | deep, g :: r, h => by
  rw [rightGs, Bool.and_eq_true] at h
  rw [kdSs]
  exact ⟨rightG_kd deep g h.1, rightGs_kd deep r h.2⟩
end
def endI : Ic := ⟨9, 0, zeroTm, 0⟩
def insR (e : Env) : Nat → List Pr → List Ic
 | _, [] => []
 | n, p :: r => emSs e n p.body ++ endI :: insR e (n + (emSs e n p.body).length + 1) r
def entR (e : Env) : Nat → List Pr → List Int
 | _, [] => []
 | n, p :: r => (n : Int) :: entR e (n + (emSs e n p.body).length + 1) r
theorem insR_snoc (e : Env) (p : Pr) : ∀ (l : List Pr) (n : Nat), insR e n (l ++ [p]) = insR e n l ++ emSs e (n + (insR e n l).length) p.body ++ [endI]
 | [], n => by simp [insR]
 | a :: r, n => by
  rw [List.cons_append, insR, insR, insR_snoc e p r]
  have e1 : n + (emSs e n a.body).length + 1 + (insR e (n + (emSs e n a.body).length + 1) r).length = n + (emSs e n a.body ++ endI :: insR e (n + (emSs e n a.body).length + 1) r).length := by simp; omega
  rw [e1]
  simp
theorem entR_snoc (e : Env) (p : Pr) : ∀ (l : List Pr) (n : Nat), entR e n (l ++ [p]) = entR e n l ++ [((n + (insR e n l).length : Nat) : Int)]
 | [], n => by simp [entR, insR]
 | a :: r, n => by
  rw [List.cons_append, entR, entR, insR, entR_snoc e p r]
  have e1 : n + (emSs e n a.body).length + 1 + (insR e (n + (emSs e n a.body).length + 1) r).length = n + (emSs e n a.body ++ endI :: insR e (n + (emSs e n a.body).length + 1) r).length := by simp; omega
  rw [e1]
  simp
theorem entR_len (e : Env) : ∀ (l : List Pr) (n : Nat), (entR e n l).length = l.length
 | [], n => rfl
 | a :: r, n => by rw [entR, List.length_cons, List.length_cons, entR_len e r]
theorem insR_len (e : Env) : ∀ (l : List Pr) (n : Nat), (∀ q ∈ l, snodess q.body ≤ 60) → (insR e n l).length ≤ 121 * l.length
 | [], n, _ => by simp [insR]
 | a :: r, n, h => by
  have h1 := emSs_len e n a.body
  have h2 := h a (by simp)
  have h3 := insR_len e r (n + (emSs e n a.body).length + 1) (fun q hq => h q (by simp [hq]))
  rw [insR, List.length_append, List.length_cons, List.length_cons]
  omega
def zeroCd : Cd := ⟨[], [], [], [], []⟩
def codeP (p : Pg) : Cd := ⟨p.globals, p.locks, pnames p.procs, entR (envP p) 0 p.procs, insR (envP p) 0 p.procs⟩
noncomputable def codeR (p : Pg) : Cd × Bool := if faultR p = 0 then (codeP p, true) else (zeroCd, false)
theorem codeR_bad {p : Pg} (h : ¬ faultR p = 0) : codeR p = (zeroCd, false) := by rw [codeR, if_neg h]
theorem codeR_good {p : Pg} (h : faultR p = 0) : codeR p = (codeP p, true) := by rw [codeR, if_pos h]
theorem fault_ok {p : Pg} (h : faultR p = 0) : okPg p = true := by
 rw [faultR] at h
 by_cases h1 : okPg p = false
 ·rw [if_pos h1] at h; cases h
 ·simpa using h1
theorem fault_facts {p : Pg} (h : faultR p = 0) : p.globals.length ≤ 6 ∧ p.locks.length ≤ 6 ∧ p.procs.length ≤ 8 ∧ ∀ q ∈ p.procs, kdSs q.body ∧ snodess q.body ≤ 60 := by
 have h1 := fault_ok h
 rw [okPg] at h1
 simp only [Bool.and_eq_true, decide_eq_true_eq, List.all_eq_true] at h1
 obtain ⟨⟨⟨hg, hl⟩, hp⟩, hq⟩ := h1
 rw [namesB, Bool.and_eq_true, decide_eq_true_eq] at hg hl
 refine ⟨hg.1, hl.1, hp, fun q hqm => ?_⟩
 have h2 := hq q hqm
 rw [okPr, Bool.and_eq_true] at h2
 have h3 := fit_inv h2.2
 exact ⟨rightGs_kd 6 q.body h3.1, h3.2⟩
def finE (es : List Int) (n : Nat) (i : Nat) : Int := es.getD (i + 1) (n : Int)
def procE (es : List Int) (at' : Int) : Nat → Int
 | 0 => -1
 | i + 1 => if es.getD i 0 ≤ at' then (i : Int) else procE es at' i
structure EntOk (es ops : List Int) : Prop where
 zero : es.getD 0 1 = 0
 rise : ∀ i, i < es.length → es.getD i 0 < finE es ops.length i
 top : ∀ i, i < es.length → finE es ops.length i ≤ (ops.length : Int)
 last : ∀ i, i < es.length → ops.getD (finE es ops.length i - 1).toNat 0 = 9
 mid : ∀ i j : Nat, i < es.length → es.getD i 0 ≤ (j : Int) → (j : Int) < finE es ops.length i - 1 → ops.getD j 0 ≠ 9
structure EntI (es ops : List Int) : Prop where
 zero : es.getD 0 1 = 0
 count : ops.countP (fun o => o == 9) = es.length
 rise : ∀ i, i < es.length → es.getD i 0 < finE es ops.length i
 top : ∀ i, i < es.length → finE es ops.length i ≤ (ops.length : Int)
 last : ∀ i, i < es.length → ops.getD (finE es ops.length i - 1).toNat 0 = 9
def endE (es : List Int) (n : Nat) (p : Int) : Int := if p + 1 < (es.length : Int) then es.getD (p + 1).toNat 0 - 1 else (n : Int) - 1
structure EntS (es ops : List Int) : Prop where
 rise : ∀ i, i < es.length → (i = 0 → es.getD 0 1 = 0) ∧ (0 < i → es.getD (i - 1) 0 < es.getD i 0) ∧ es.getD i 0 < (ops.length : Int)
 ends : ∀ j, j < ops.length → (ops.getD j 0 == 9) = (endE es ops.length (procE es j es.length) == (j : Int))
theorem finE_in {es : List Int} {n i : Nat} (h : i + 1 < es.length) : finE es n i = es.getD (i + 1) 0 := by
 unfold finE; rw [List.getD_eq_getElem?_getD, List.getD_eq_getElem?_getD, List.getElem?_eq_getElem h]; rfl
theorem finE_out {es : List Int} {n i : Nat} (h : es.length ≤ i + 1) : finE es n i = (n : Int) := by
 unfold finE; rw [List.getD_eq_getElem?_getD, List.getElem?_eq_none h]; rfl
theorem endE_fin {es : List Int} {n i : Nat} : endE es n (i : Int) = finE es n i - 1 := by
 unfold endE
 by_cases h : i + 1 < es.length
 ·rw [if_pos (by omega), finE_in h, show ((i : Int) + 1).toNat = i + 1 from by omega]
 ·rw [if_neg (by omega), finE_out (by omega)]
theorem getD_any {es : List Int} {i : Nat} (h : i < es.length) (x y : Int) : es.getD i x = es.getD i y := by
 rw [List.getD_eq_getElem?_getD, List.getD_eq_getElem?_getD, List.getElem?_eq_getElem h]; rfl
theorem getD_get {es : List Int} {i : Nat} (h : i < es.length) (x : Int) : es.getD i x = es[i] := by
 rw [List.getD_eq_getElem?_getD, List.getElem?_eq_getElem h]; rfl
theorem ent_up {es : List Int} {n : Nat} (rise : ∀ i, i < es.length → es.getD i 0 < finE es n i) {i : Nat} : ∀ {k : Nat}, i < k → k < es.length → finE es n i ≤ es.getD k 0
 | 0, h, _ => by omega
 | k + 1, h, hk => by
  by_cases e : i = k
  ·subst e; rw [finE_in hk]; exact Int.le_refl _
  ·have h1 := ent_up rise (i := i) (k := k) (by omega) (by omega)
   have h2 := rise k (by omega)
   rw [finE_in hk] at h2
   omega
theorem procE_at {es : List Int} {a : Int} {i : Nat} : ∀ {m : Nat}, i < m → es.getD i 0 ≤ a → (∀ k, i < k → k < m → a < es.getD k 0) → procE es a m = (i : Int)
 | 0, h, _, _ => by omega
 | m + 1, h, h1, h2 => by
  rw [procE]
  by_cases e : i = m
  ·subst e; rw [if_pos h1]
  ·rw [if_neg (by have := h2 m (by omega) (by omega); omega)]
   exact procE_at (by omega) h1 (fun k a b => h2 k a (by omega))
theorem procE_lo (es : List Int) (a : Int) : ∀ m, -1 ≤ procE es a m
 | 0 => by rw [procE]; omega
 | m + 1 => by
  rw [procE]
  split
  ·omega
  ·exact procE_lo es a m
theorem procE_hi (es : List Int) (a : Int) : ∀ m, procE es a m < (m : Int)
 | 0 => by rw [procE]; omega
 | m + 1 => by
  rw [procE]
  split
  ·omega
  ·have := procE_hi es a m; omega
theorem procE_in {es : List Int} {n : Nat} (rise : ∀ i, i < es.length → es.getD i 0 < finE es n i) {a : Int} {i : Nat} (hi : i < es.length) (h1 : es.getD i 0 ≤ a) (h2 : a < finE es n i) : procE es a es.length = (i : Int) :=
 procE_at hi h1 fun k a b => by have := ent_up rise a b; omega
theorem proc_ex {es : List Int} {n : Nat} (zero : es.getD 0 1 = 0) {a : Int} (h0 : 0 ≤ a) (h1 : a < (n : Int)) : ∃ i, i < es.length ∧ es.getD i 0 ≤ a ∧ a < finE es n i := by
 have hl : 0 < es.length := by
  rcases Nat.eq_zero_or_pos es.length with h | h
  ·have e : es = [] := List.eq_nil_of_length_eq_zero h
   subst e; simp at zero
  ·exact h
 have key : ∀ m, m ≤ es.length → 0 < m → (∀ k, m ≤ k → k < es.length → a < es.getD k 0) → ∃ i, i < es.length ∧ es.getD i 0 ≤ a ∧ a < finE es n i := by
  intro m
  induction m with
  | zero => intro _ h; omega
  | succ m ih =>
   intro hm _ hk
   by_cases e : es.getD m 0 ≤ a
   ·refine ⟨m, by omega, e, ?_⟩
    by_cases e2 : m + 1 < es.length
    ·rw [finE_in e2]; exact hk (m + 1) (Nat.le_refl _) e2
    ·rw [finE_out (by omega)]; exact h1
   ·rcases Nat.eq_zero_or_pos m with h | h
    ·subst h; rw [getD_any hl 0 1, zero] at e; omega
    ·refine ih (by omega) h fun k h2 h3 => ?_
     by_cases e3 : k = m
     ·subst e3; omega
     ·exact hk k (by omega) h3
 exact key es.length (Nat.le_refl _) hl (fun k h1 h2 => by omega)
def cnt9 (ops : List Int) (m : Nat) : Nat := (ops.take m).countP (fun o => o == 9)
theorem cnt9_succ {ops : List Int} {m : Nat} (h : m < ops.length) : cnt9 ops (m + 1) = cnt9 ops m + (if ops.getD m 0 = 9 then 1 else 0) := by
 unfold cnt9
 have e : ops.take (m + 1) = ops.take m ++ [ops[m]] := List.take_succ_eq_append_getElem h
 rw [e, List.countP_append, getD_get h]
 by_cases q : ops[m] = 9
 ·rw [if_pos q, q]; rfl
 ·rw [if_neg q]; simp [q]
theorem cnt9_le {ops : List Int} {a : Nat} : ∀ {b : Nat}, a ≤ b → b ≤ ops.length → cnt9 ops a ≤ cnt9 ops b
 | 0, h, _ => by
  have : a = 0 := by omega
  subst this; exact Nat.le_refl _
 | b + 1, h, hb => by
  by_cases e : a = b + 1
  ·subst e; exact Nat.le_refl _
  ·have := cnt9_le (ops := ops) (a := a) (b := b) (by omega) (by omega)
   rw [cnt9_succ (by omega)]; omega
theorem cnt9_none {ops : List Int} {a : Nat} : ∀ {b : Nat}, a ≤ b → b ≤ ops.length → (∀ j, a ≤ j → j < b → ops.getD j 0 ≠ 9) → cnt9 ops b = cnt9 ops a
 | 0, h, _, _ => by
  have : a = 0 := by omega
  subst this; rfl
 | b + 1, h, hb, hn => by
  by_cases e : a = b + 1
  ·subst e; rfl
  ·rw [cnt9_succ (by omega), if_neg (hn b (by omega) (by omega)), cnt9_none (ops := ops) (a := a) (b := b) (by omega) (by omega) (fun j h1 h2 => hn j h1 (by omega))]; omega
theorem cnt9_some {ops : List Int} {a b j : Nat} (h : a ≤ j) (hj : j < b) (hb : b ≤ ops.length) (e : ops.getD j 0 = 9) : cnt9 ops a + 1 ≤ cnt9 ops b := by
 have h1 := cnt9_le (ops := ops) (a := a) (b := j) h (by omega)
 have h2 := cnt9_le (ops := ops) (a := j + 1) (b := b) (by omega) hb
 rw [cnt9_succ (by omega), if_pos e] at h2
 omega
theorem cnt9_all (ops : List Int) : cnt9 ops ops.length = ops.countP (fun o => o == 9) := by unfold cnt9; rw [List.take_length]
section
variable {es ops : List Int} (zero : es.getD 0 1 = 0) (rise : ∀ i, i < es.length → es.getD i 0 < finE es ops.length i)
 (top : ∀ i, i < es.length → finE es ops.length i ≤ (ops.length : Int)) (last : ∀ i, i < es.length → ops.getD (finE es ops.length i - 1).toNat 0 = 9)
include zero rise in
theorem ent_nat : ∀ i, i < es.length → 0 ≤ es.getD i 0 := by
 intro i hi
 have hl : 0 < es.length := by omega
 rcases Nat.eq_zero_or_pos i with h | h
 ·subst h; rw [getD_any hl 0 1, zero]; exact Int.le_refl _
 ·have h1 := ent_up rise h hi
  have h2 := rise 0 hl
  rw [getD_any hl 0 1, zero] at h2
  omega
include zero rise top last in
theorem cnt_low : ∀ i, i < es.length → i + 1 ≤ cnt9 ops (finE es ops.length i).toNat ∧ i ≤ cnt9 ops (es.getD i 0).toNat := by
 intro i
 induction i with
 | zero =>
  intro hi
  have h1 := rise 0 hi
  have h2 := ent_nat zero rise 0 hi
  have h3 := top 0 hi
  have := cnt9_some (ops := ops) (a := (es.getD 0 0).toNat) (b := (finE es ops.length 0).toNat) (j := (finE es ops.length 0 - 1).toNat) (by omega) (by omega) (by omega) (last 0 hi)
  omega
 | succ i ih =>
  intro hi
  have h0 := (ih (by omega)).1
  rw [finE_in hi] at h0
  have h1 := rise (i + 1) hi
  have h2 := ent_nat zero rise (i + 1) hi
  have h3 := top (i + 1) hi
  have := cnt9_some (ops := ops) (a := (es.getD (i + 1) 0).toNat) (b := (finE es ops.length (i + 1)).toNat) (j := (finE es ops.length (i + 1) - 1).toNat) (by omega) (by omega) (by omega) (last (i + 1) hi)
  omega
theorem cnt_high (rise : ∀ i, i < es.length → es.getD i 0 < finE es ops.length i) (zero : es.getD 0 1 = 0) (top : ∀ i, i < es.length → finE es ops.length i ≤ (ops.length : Int)) (last : ∀ i, i < es.length → ops.getD (finE es ops.length i - 1).toNat 0 = 9)
  (hc : cnt9 ops ops.length = es.length) : ∀ d i, i + d + 1 = es.length → cnt9 ops (finE es ops.length i).toNat ≤ i + 1 := by
 intro d
 induction d with
 | zero =>
  intro i hi
  rw [finE_out (by omega), Int.toNat_natCast, hc]; omega
 | succ d ih =>
  intro i hi
  have h0 := ih (i + 1) (by omega)
  have hi2 : i + 1 < es.length := by omega
  have h1 := rise (i + 1) hi2
  have h2 := ent_nat zero rise (i + 1) hi2
  have h3 := top (i + 1) hi2
  have := cnt9_some (ops := ops) (a := (es.getD (i + 1) 0).toNat) (b := (finE es ops.length (i + 1)).toNat) (j := (finE es ops.length (i + 1) - 1).toNat) (by omega) (by omega) (by omega) (last (i + 1) hi2)
  rw [finE_in hi2]; omega
end
theorem entI_ok {es ops : List Int} (h : EntI es ops) : EntOk es ops := by
 refine ⟨h.zero, h.rise, h.top, h.last, fun i j hi h1 h2 h9 => ?_⟩
 have hc : cnt9 ops ops.length = es.length := by rw [cnt9_all]; exact h.count
 have e1 := (cnt_low h.zero h.rise h.top h.last i hi).2
 have e2 := cnt_high h.rise h.zero h.top h.last hc (es.length - i - 1) i (by omega)
 have n0 := ent_nat h.zero h.rise i hi
 have t0 := h.top i hi
 have a1 := cnt9_some (ops := ops) (a := (es.getD i 0).toNat) (b := j + 1) (j := j) (by omega) (by omega) (by omega) h9
 have a2 := cnt9_some (ops := ops) (a := j + 1) (b := (finE es ops.length i).toNat) (j := (finE es ops.length i - 1).toNat) (by omega) (by omega) (by omega) (h.last i hi)
 omega
theorem entI_of {es ops : List Int} (h : EntOk es ops) : EntI es ops := by
 refine ⟨h.zero, ?_, h.rise, h.top, h.last⟩
 rw [← cnt9_all]
 have hl : 0 < es.length := by
  rcases Nat.eq_zero_or_pos es.length with e | e
  ·have e : es = [] := List.eq_nil_of_length_eq_zero e
   subst e; have := h.zero; simp at this
  ·exact e
 have key : ∀ i, i < es.length → cnt9 ops (finE es ops.length i).toNat = i + 1 := by
  intro i
  have step : ∀ i, i < es.length → cnt9 ops (finE es ops.length i).toNat = cnt9 ops (es.getD i 0).toNat + 1 := by
   intro i hi
   have h1 := h.rise i hi
   have h2 := ent_nat h.zero h.rise i hi
   have h3 := h.top i hi
   have e : (finE es ops.length i).toNat = (finE es ops.length i - 1).toNat + 1 := by omega
   have a1 := cnt9_none (ops := ops) (a := (es.getD i 0).toNat) (b := (finE es ops.length i - 1).toNat) (by omega) (by omega) (fun j j1 j2 => h.mid i j hi (by omega) (by omega))
   rw [e, cnt9_succ (by omega), if_pos (h.last i hi), a1]
  induction i with
  | zero =>
   intro hi
   rw [step 0 hi, getD_any hl 0 1, h.zero]; rfl
  | succ i ih =>
   intro hi
   rw [step (i + 1) hi, ← finE_in hi (n := ops.length), ih (by omega)]
 have := key (es.length - 1) (by omega)
 rw [finE_out (by omega), Int.toNat_natCast] at this
 omega
theorem entS_ok {es ops : List Int} (hl : 0 < es.length) (h : EntS es ops) : EntOk es ops := by
 have zero : es.getD 0 1 = 0 := (h.rise 0 hl).1 rfl
 have rise : ∀ i, i < es.length → es.getD i 0 < finE es ops.length i := by
  intro i hi
  by_cases e : i + 1 < es.length
  ·rw [finE_in e]; exact (h.rise (i + 1) e).2.1 (by omega)
  ·rw [finE_out (by omega)]; exact (h.rise i hi).2.2
 have top : ∀ i, i < es.length → finE es ops.length i ≤ (ops.length : Int) := by
  intro i hi
  by_cases e : i + 1 < es.length
  ·rw [finE_in e]; have := (h.rise (i + 1) e).2.2; omega
  ·rw [finE_out (by omega)]; exact Int.le_refl _
 have nn := ent_nat zero rise
 refine ⟨zero, rise, top, fun i hi => ?_, fun i j hi h1 h2 h9 => ?_⟩
 ·have h1 := rise i hi
  have h2 := nn i hi
  have h3 := top i hi
  have e := h.ends (finE es ops.length i - 1).toNat (by omega)
  have e0 : (((finE es ops.length i - 1).toNat : Nat) : Int) = finE es ops.length i - 1 := by omega
  rw [e0, procE_in rise hi (by omega) (by omega), endE_fin] at e
  rw [show (finE es ops.length i - 1 == finE es ops.length i - 1) = true from by simp] at e
  exact beq_iff_eq.1 e
 ·have h3 := top i hi
  have e := h.ends j (by omega)
  rw [procE_in rise hi h1 (by omega), endE_fin, h9, show (finE es ops.length i - 1 == (j : Int)) = false from by simp; omega] at e
  cases e
theorem entS_of {es ops : List Int} (h : EntOk es ops) : EntS es ops := by
 have nn := ent_nat h.zero h.rise
 refine ⟨fun i hi => ⟨fun e => h.zero, fun h0 => ?_, ?_⟩, fun j hj => ?_⟩
 ·have := h.rise (i - 1) (by omega)
  rw [finE_in (by omega), show i - 1 + 1 = i from by omega] at this
  exact this
 ·have := h.rise i hi; have := h.top i hi; omega
 ·obtain ⟨i, hi, h1, h2⟩ := proc_ex h.zero (n := ops.length) (a := (j : Int)) (by omega) (by omega)
  rw [procE_in h.rise hi h1 h2, endE_fin]
  by_cases e : finE es ops.length i - 1 = (j : Int)
  ·have := h.last i hi
   rw [e, Int.toNat_natCast] at this
   rw [this, e]; simp
  ·have := h.mid i j hi h1 (by omega)
   rw [show (ops.getD j 0 == 9) = false from by simpa using this, show (finE es ops.length i - 1 == (j : Int)) = false from by simpa using e]
def mainS : ByteArray := ⟨#[109, 97, 105, 110]⟩
def namB (p : Cd) : Bool := namesB 6 p.globals && namesB 6 p.locks && namesB 8 p.procs && !twiceS p.globals && !twiceS p.locks && !twiceS p.procs && hasS p.procs mainS
theorem namB_1 {p : Cd} (h : namesB 6 p.globals = false) : namB p = false := by unfold namB; rw [h]; simp
theorem namB_2 {p : Cd} (h : namesB 6 p.locks = false) : namB p = false := by unfold namB; rw [h]; simp
theorem namB_3 {p : Cd} (h : namesB 8 p.procs = false) : namB p = false := by unfold namB; rw [h]; simp
theorem namB_4 {p : Cd} (h : twiceS p.globals = true) : namB p = false := by unfold namB; rw [h]; simp
theorem namB_5 {p : Cd} (h : twiceS p.locks = true) : namB p = false := by unfold namB; rw [h]; simp
theorem namB_6 {p : Cd} (h : twiceS p.procs = true) : namB p = false := by unfold namB; rw [h]; simp
theorem namB_7 {p : Cd} (h : hasS p.procs mainS = false) : namB p = false := by unfold namB; rw [h]; simp
theorem namB_8 {p : Cd} (h1 : namesB 6 p.globals = true) (h2 : namesB 6 p.locks = true) (h3 : namesB 8 p.procs = true) (h4 : twiceS p.globals = false) (h5 : twiceS p.locks = false) (h6 : twiceS p.procs = false) : namB p = hasS p.procs mainS := by unfold namB; rw [h1, h2, h3, h4, h5, h6]; rfl
theorem has_pos {ss : List ByteArray} {x : ByteArray} (h : hasS ss x = true) : 0 < ss.length := by
 have := has_iff.1 h
 exact List.length_pos_of_mem this
theorem namB_pos {p : Cd} (h : namB p = true) : 0 < p.procs.length := by
 refine has_pos (x := mainS) ?_
 unfold namB at h
 simp only [Bool.and_eq_true] at h
 exact h.2
def opsC (p : Cd) : List Int := p.ins.map Ic.op
theorem opsC_len (p : Cd) : (opsC p).length = p.ins.length := by simp [opsC]
theorem opsC_get (p : Cd) {j : Nat} (h : j < p.ins.length) (x : Int) : (opsC p).getD j x = p.ins[j].op := by
 rw [getD_get (by rw [opsC_len]; exact h)]; simp [opsC]
structure HeadOk (p : Cd) : Prop where
 nam : namB p = true
 same : p.entry.length = p.procs.length
 small : p.ins.length ≤ 1500
 ent : EntOk p.entry (opsC p)
def RiseAt (p : Cd) (i : Nat) : Prop := (i = 0 → p.entry.getD 0 1 = 0) ∧ (0 < i → p.entry.getD (i - 1) 0 < p.entry.getD i 0) ∧ p.entry.getD i 0 < (p.ins.length : Int)
def EndAt (p : Cd) (j : Nat) : Prop := ((opsC p).getD j 0 == 9) = (endE p.entry p.ins.length (procE p.entry j p.entry.length) == (j : Int))
theorem head_rise {p : Cd} (h : HeadOk p) {i : Nat} (hi : i < p.entry.length) : RiseAt p i := by
 have := (entS_of h.ent).rise i hi
 rw [opsC_len] at this
 exact this
theorem head_ends {p : Cd} (h : HeadOk p) {j : Nat} (hj : j < p.ins.length) : EndAt p j := by
 have := (entS_of h.ent).ends j (by rw [opsC_len]; exact hj)
 rw [opsC_len] at this
 exact this
theorem head_mk {p : Cd} (h1 : namB p = true) (h2 : p.entry.length = p.procs.length) (h3 : p.ins.length ≤ 1500) (hA : ∀ i, i < p.entry.length → RiseAt p i) (hB : ∀ j, j < p.ins.length → EndAt p j) : HeadOk p := by
 refine ⟨h1, h2, h3, entS_ok (by rw [h2]; exact namB_pos h1) ⟨fun i hi => ?_, fun j hj => ?_⟩⟩
 ·rw [opsC_len]; exact hA i hi
 ·have hj' : j < p.ins.length := by rw [← opsC_len]; exact hj
  rw [opsC_len]; exact hB j hj'
theorem rise_nn {p : Cd} (hA : ∀ i, i < p.entry.length → RiseAt p i) : ∀ i, i < p.entry.length → 0 ≤ p.entry.getD i 0 := by
 intro i
 induction i with
 | zero => intro hi; rw [getD_any hi 0 1, (hA 0 hi).1 rfl]; exact Int.le_refl _
 | succ i ih =>
  intro hi
  have h1 := ih (by omega)
  have h2 := (hA (i + 1) hi).2.1 (by omega)
  rw [show i + 1 - 1 = i from by omega] at h2
  omega
def mostC (p : Cd) (op : Int) : Int := if op = 1 then (p.globals.length : Int) - 1 else if op = 6 ∨ op = 7 then (p.locks.length : Int) - 1 else if op = 4 ∨ op = 5 then (p.procs.length : Int) - 1 else 0
noncomputable def trmB (p : Cd) (x : Ic) : Bool := if x.op = 1 ∨ x.op = 2 then okT 6 x.term && (readsR x.term).all (hasS p.globals) else sameB x.term zeroTm
def tgtB (x : Ic) (b l : Int) : Bool := if x.op = 2 ∨ x.op = 3 then inB x.to b l else (x.to == 0)
noncomputable def insB (p : Cd) (x : Ic) (b l : Int) : Bool := inB x.op 1 9 && inB x.arg 0 (mostC p x.op) && trmB p x && tgtB x b l
theorem insB_op {p : Cd} {x : Ic} {b l : Int} (h : inB x.op 1 9 = false) : insB p x b l = false := by unfold insB; rw [h]; rfl
theorem insB_arg {p : Cd} {x : Ic} {b l : Int} (h : inB x.arg 0 (mostC p x.op) = false) : insB p x b l = false := by unfold insB; rw [h]; simp
theorem insB_trm {p : Cd} {x : Ic} {b l : Int} (h : trmB p x = false) : insB p x b l = false := by unfold insB; rw [h]; simp
theorem insB_fin {p : Cd} {x : Ic} {b l : Int} (h1 : inB x.op 1 9 = true) (h2 : inB x.arg 0 (mostC p x.op) = true) (h3 : trmB p x = true) : insB p x b l = tgtB x b l := by unfold insB; rw [h1, h2, h3]; rfl
theorem trmB_bad {p : Cd} {x : Ic} (h : x.op = 1 ∨ x.op = 2) (h2 : okT 6 x.term = false) : trmB p x = false := by unfold trmB; rw [if_pos h, h2]; rfl
theorem trmB_miss {p : Cd} {x : Ic} (h : x.op = 1 ∨ x.op = 2) {k : Nat} (hk : k < (readsR x.term).length) (h2 : hasS p.globals (readsR x.term)[k] = false) : trmB p x = false := by
 unfold trmB; rw [if_pos h, all_not hk h2, Bool.and_false]
theorem trmB_yes {p : Cd} {x : Ic} (h : x.op = 1 ∨ x.op = 2) (h1 : okT 6 x.term = true) (h2 : (readsR x.term).all (hasS p.globals) = true) : trmB p x = true := by unfold trmB; rw [if_pos h, h1, h2]; rfl
theorem trmB_zero {p : Cd} {x : Ic} (h : ¬ (x.op = 1 ∨ x.op = 2)) : trmB p x = sameB x.term zeroTm := by unfold trmB; rw [if_neg h]
theorem tgtB_jump {x : Ic} {b l : Int} (h : x.op = 2 ∨ x.op = 3) : tgtB x b l = inB x.to b l := by unfold tgtB; rw [if_pos h]
theorem tgtB_none {x : Ic} {b l : Int} (h : ¬ (x.op = 2 ∨ x.op = 3)) : tgtB x b l = (x.to == 0) := by unfold tgtB; rw [if_neg h]
def bE (p : Cd) (j : Nat) : Int := p.entry.getD (procE p.entry j p.entry.length).toNat 0
def lE (p : Cd) (j : Nat) : Int := endE p.entry p.ins.length (procE p.entry j p.entry.length)
structure CodOk (p : Cd) : Prop where
 head : HeadOk p
 ins : ∀ j (h : j < p.ins.length), insB p p.ins[j] (bE p j) (lE p j) = true
theorem codOk_of {p : Cd} (h : HeadOk p) (hi : ∀ i, i < p.entry.length → ∀ j (hj : j < p.ins.length), p.entry.getD i 0 ≤ (j : Int) → (j : Int) < finE p.entry p.ins.length i → insB p p.ins[j] (p.entry.getD i 0) (finE p.entry p.ins.length i - 1) = true) : CodOk p := by
 refine ⟨h, fun j hj => ?_⟩
 have rise := h.ent.rise
 rw [opsC_len] at rise
 obtain ⟨i, h0, h1, h2⟩ := proc_ex h.ent.zero (n := p.ins.length) (a := (j : Int)) (by omega) (by omega)
 have e := procE_in rise h0 h1 h2
 unfold bE lE
 rw [e, endE_fin, Int.toNat_natCast]
 exact hi i h0 j hj h1 h2
theorem codOk_in {p : Cd} (h : CodOk p) {i j : Nat} (hi : i < p.entry.length) (hj : j < p.ins.length) (h1 : p.entry.getD i 0 ≤ (j : Int)) (h2 : (j : Int) < finE p.entry p.ins.length i) : insB p p.ins[j] (p.entry.getD i 0) (finE p.entry p.ins.length i - 1) = true := by
 have rise := h.head.ent.rise
 rw [opsC_len] at rise
 have := h.ins j hj
 unfold bE lE at this
 rw [procE_in rise hi h1 h2, endE_fin, Int.toNat_natCast] at this
 exact this
def Box5 (w : World) (g : Nat) (x : V5) (p : Cd) : Prop := w.cell? ⟨g, 0, none⟩ = some (.slice x.gA p.globals.length x.gc) ∧ w.cell? ⟨g, 1, none⟩ = some (.slice x.lA p.locks.length x.lc) ∧ w.cell? ⟨g, 2, none⟩ = some (.slice x.pA p.procs.length x.pc) ∧ w.cell? ⟨g, 3, none⟩ = some (.slice x.eA p.entry.length x.ec) ∧ w.cell? ⟨g, 4, none⟩ = some (.slice x.iA p.ins.length x.ic)
theorem Box5.below {w w' : World} {g : Nat} {x : V5} {p : Cd} (h : Box5 w g x p) (hb : Below w.heap.size w w') : Box5 w' g x p := ⟨cell_keep hb h.1, cell_keep hb h.2.1, cell_keep hb h.2.2.1, cell_keep hb h.2.2.2.1, cell_keep hb h.2.2.2.2⟩
theorem Box5.new (w : World) (x : V5) (p : Cd) (e : TypeId) : Box5 (w.alloc (.cells #[.slice x.gA p.globals.length x.gc, .slice x.lA p.locks.length x.lc, .slice x.pA p.procs.length x.pc, .slice x.eA p.entry.length x.ec, .slice x.iA p.ins.length x.ic] e)) w.heap.size x p := by
 refine ⟨?_, ?_, ?_, ?_, ?_⟩ <;> rw [World.cell?_alloc_new] <;> rfl
theorem Cells7.below {w w' : World} {b o : Nat} {x : V7} (h : Cells7 w b o x) (hb : Below w.heap.size w w') : Cells7 w' b o x := ⟨cell_keep hb h.1, cell_keep hb h.2.1, cell_keep hb h.2.2.1, cell_keep hb h.2.2.2.1, cell_keep hb h.2.2.2.2.1, cell_keep hb h.2.2.2.2.2.1, cell_keep hb h.2.2.2.2.2.2⟩
theorem Cells7.new (w : World) (x : V7) (e : TypeId) : Cells7 (w.alloc (.cells #[.int .i64 x.op, .int .i64 x.arg, .int .i64 x.k, .int .i64 x.n, .string x.s, .slice x.A x.m x.c, .int .i64 x.to] e)) w.heap.size 0 x := by
 refine ⟨?_, ?_, ?_, ?_, ?_, ?_, ?_⟩ <;> rw [World.cell?_alloc_new] <;> rfl
end Go.Proofs.YtnmblfonmfjoeaaGreatDoor
