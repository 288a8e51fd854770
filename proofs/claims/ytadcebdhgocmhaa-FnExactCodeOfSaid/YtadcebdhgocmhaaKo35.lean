/- Lemmas for the row. -/
import Derived.Test.YtadcebdhgocmhaaKo14
import Derived.Test.YtadcebdhgocmhaaKo20
import Derived.Test.YtadcebdhgocmhaaKo10
import Derived.Test.YtadcebdhgocmhaaKo15
import Derived.Test.YtadcebdhgocmhaaKo23
import Derived.Test.YtadcebdhgocmhaaKo34
import Derived.Test.YtadcebdhgocmhaaKo2
import Derived.Lib.BufferMore
namespace Go.Proofs.Ytadcebdhgocmhaa
open Go.RowKit
set_option linter.unusedVariables false
def IntP (w : World) (G : Nat → Prop) (cells : List Value) (z : Int) : Prop := cells = [.int .i64 z] ∧ i64in z
abbrev IntRowO (w : World) (F : Nat → Prop) (A : Option Addr) (l : List Int) : Prop := RowOf IntP w F 1 A l
abbrev InsRowO (w : World) (F : Nat → Prop) (A : Option Addr) (l : List Ic) : Prop := RowOf IcP w F 7 A l
theorem IntP.keepP : ∀ w w' G cells x, IntP w G cells x → (∀ b, G b → w'.heap[b]? = w.heap[b]?) → IntP w' G cells x := fun _ _ _ _ _ h _ => h
theorem IntRowO.keep {w w' : World} {F : Nat → Prop} {A : Option Addr} {l : List Int} (h : IntRowO w F A l) (hk : ∀ b, F b → w'.heap[b]? = w.heap[b]?) : IntRowO w' F A l := RowOf.keepR IntP.keepP h hk
theorem InsRowO.keep {w w' : World} {F : Nat → Prop} {A : Option Addr} {l : List Ic} (h : InsRowO w F A l) (hk : ∀ b, F b → w'.heap[b]? = w.heap[b]?) : InsRowO w' F A l := RowOf.keepR IcP.keepP h hk
theorem IntRowO.rd {w : World} {F : Nat → Prop} {A : Option Addr} {l : List Int} (h : IntRowO w F A l) : Rd w 1 A l.length (l.map (Value.int .i64)) ∧ ∀ z ∈ l, i64in z := by
  obtain ⟨cs, G, row, hx⟩ := h
  constructor
  · have e : cs = l.map (Value.int .i64) := by
      apply List.ext_getElem
      · rw [row.1.1]; simp
      · intro i h1 h2
        rw [row.1.1] at h1
        have hi : i < l.length := by omega
        have := (hx i hi).1
        have h3 : ((cs.drop (i * 1)).take 1)[0]? = some (Value.int .i64 l[i]) := by rw [this]; rfl
        rw [List.getElem?_take, if_pos (by omega), List.getElem?_drop, Nat.mul_one, Nat.add_zero] at h3
        rw [List.getElem?_eq_getElem (by omega)] at h3
        injection h3 with h3
        rw [h3]; simp
    rw [← e]; exact row.1
  · intro z hz
    obtain ⟨i, hi, rfl⟩ := List.getElem_of_mem hz
    exact (hx i hi).2
theorem IcP.is {w : World} {G : Nat → Prop} {cells : List Value} {i : Ic} (h : IcP w G cells i) : ∃ x : V7, cells = x.cells ∧ IcIs AnyB w x i := by
  obtain ⟨x, e, a, b, c, d, f, g, t⟩ := h
  exact ⟨x, e, a, b, c, d, f, g, t.any⟩
theorem InsRowO.any {w : World} {F : Nat → Prop} {A : Option Addr} {l : List Ic} (h : InsRowO w F A l) : IcRow AnyB w A l := by
  obtain ⟨cs, G, row, hx⟩ := h
  obtain ⟨xs, hl, hxs⟩ := list_of l.length (fun i (x : V7) => (cs.drop (i * 7)).take 7 = x.cells ∧ ∀ h : i < l.length, IcIs AnyB w x l[i]) (fun i hi => by obtain ⟨x, e, r⟩ := (hx i hi).is; exact ⟨x, e, fun _ => r⟩)
  refine ⟨xs, hl, ?_, fun _ _ _ _ => trivial, fun i h h' => (hxs i h').2 h⟩
  have e : cs = xs.flatMap V7.cells := by
    apply List.ext_getElem?
    intro j
    by_cases hj : j < l.length * 7
    · have e1 : j = (j / 7) * 7 + j % 7 := by omega
      have hk : j / 7 < xs.length := by omega
      rw [e1, chunk_get (by omega) (hxs _ hk).1, flat_get V7.cells 7 v7_len _ _ _ hk (by omega)]
    · rw [List.getElem?_eq_none (by rw [row.1.1]; omega), List.getElem?_eq_none (by rw [flat_length V7.cells 7 v7_len]; omega)]
  rw [← e, hl]; exact row.1
def CdO (w : World) (F : Nat → Prop) (x : V5) (p : Cd) : Prop := ∃ H : Nat → Nat → Prop, (∀ i b, H i b → F b) ∧ (∀ i j b, i ≠ j → H i b → H j b → False) ∧
  (p.globals.length ≤ x.gc ∧ x.gc ≤ maxLen ∧ StrRowO w (H 0) x.gA p.globals) ∧ (p.locks.length ≤ x.lc ∧ x.lc ≤ maxLen ∧ StrRowO w (H 1) x.lA p.locks) ∧ (p.procs.length ≤ x.pc ∧ x.pc ≤ maxLen ∧ StrRowO w (H 2) x.pA p.procs) ∧
  (p.entry.length ≤ x.ec ∧ x.ec ≤ maxLen ∧ IntRowO w (H 3) x.eA p.entry) ∧ (p.ins.length ≤ x.ic ∧ x.ic ≤ maxLen ∧ InsRowO w (H 4) x.iA p.ins)
theorem CdO.any {w : World} {F : Nat → Prop} {x : V5} {p : Cd} (h : CdO w F x p) : CdIs w x p := by
  obtain ⟨H, _, _, ⟨a1, a2, a3⟩, ⟨b1, b2, b3⟩, ⟨c1, c2, c3⟩, ⟨d1, d2, d3⟩, ⟨e1, e2, e3⟩⟩ := h
  exact ⟨a1, a2, a3.rd.1, a3.rd.2, b1, b2, b3.rd.1, b3.rd.2, c1, c2, c3.rd.1, c3.rd.2, d1, d2, d3.rd.1, d3.rd.2, e1, e2, e3.any⟩
theorem CdO.keep {w w' : World} {F : Nat → Prop} {x : V5} {p : Cd} (h : CdO w F x p) (hk : ∀ b, F b → w'.heap[b]? = w.heap[b]?) : CdO w' F x p := by
  obtain ⟨H, s, d, ⟨a1, a2, a3⟩, ⟨b1, b2, b3⟩, ⟨c1, c2, c3⟩, ⟨d1, d2, d3⟩, ⟨e1, e2, e3⟩⟩ := h
  exact ⟨H, s, d, ⟨a1, a2, a3.keep fun b h => hk b (s 0 b h)⟩, ⟨b1, b2, b3.keep fun b h => hk b (s 1 b h)⟩, ⟨c1, c2, c3.keep fun b h => hk b (s 2 b h)⟩, ⟨d1, d2, d3.keep fun b h => hk b (s 3 b h)⟩, ⟨e1, e2, e3.keep fun b h => hk b (s 4 b h)⟩⟩
theorem CdO.belowO {w1 w2 : World} {F : Nat → Prop} {x : V5} {p : Cd} (h : CdO w1 F x p) (hF : ∀ b, F b → b < w1.heap.size) (hb : Below w1.heap.size w1 w2) : CdO w2 F x p := h.keep fun b hF' => hb.block b (hF b hF')
theorem CdO.sub {w : World} {F F' : Nat → Prop} {x : V5} {p : Cd} (h : CdO w F x p) (hF : ∀ b, F b → F' b) : CdO w F' x p := by
  obtain ⟨H, s, d, r⟩ := h
  exact ⟨H, fun i b hb => hF b (s i b hb), d, r⟩
def imarks : List Ic → Nat
  | [] => 0
  | i :: r => 3 + 3 * nodes i.term + imarks r
def mkI (k : Nat) (i : Ic) : Ic := ⟨(k : Int), ((k + 1 : Nat) : Int), mkT (k + 2) i.term, ((k + 2 + 3 * nodes i.term : Nat) : Int)⟩
def mkIs (k : Nat) : List Ic → List Ic
  | [] => []
  | i :: r => mkI k i :: mkIs (k + (3 + 3 * nodes i.term)) r
theorem mkIs_length (k : Nat) (l : List Ic) : (mkIs k l).length = l.length := by
  induction l generalizing k with
  | nil => rfl
  | cons p r ih => rw [mkIs, List.length_cons, List.length_cons, ih]
theorem mkIs_get (k : Nat) (l : List Ic) {m : Nat} (h : m < l.length) : (mkIs k l)[m]? = some (mkI (k + imarks (l.take m)) l[m]) := by
  induction l generalizing k m with
  | nil => simp at h
  | cons p r ih =>
    cases m with
    | zero => simp [mkIs, imarks]
    | succ m =>
      have h' : m < r.length := by simpa using h
      rw [mkIs, List.getElem?_cons_succ, ih _ h', List.take_succ_cons, imarks]
      simp [Nat.add_assoc]
theorem imarks_append (l r : List Ic) : imarks (l ++ r) = imarks l + imarks r := by
  induction l with
  | nil => simp [imarks]
  | cons a l ih => rw [List.cons_append, imarks, imarks, ih]; omega
theorem imarks_take (l : List Ic) (m : Nat) (h : m < l.length) : imarks (l.take (m + 1)) = imarks (l.take m) + (3 + 3 * nodes l[m].term) := by
  rw [List.take_succ_eq_append_getElem h, imarks_append, imarks, imarks]; omega
theorem imarks_take_le (l : List Ic) (m : Nat) : imarks (l.take m) ≤ imarks l := by
  have h := imarks_append (l.take m) (l.drop m)
  rw [List.take_append_drop] at h
  omega
def mkN (k n : Nat) : List Int := (List.range n).map fun i => ((k + i : Nat) : Int)
theorem mkN_length (k n : Nat) : (mkN k n).length = n := by simp [mkN]
theorem mkN_get (k n i : Nat) (h : i < n) : (mkN k n)[i]? = some ((k + i : Nat) : Int) := by simp [mkN, h]
def markC (p : Cd) : Nat := p.globals.length + p.locks.length + p.procs.length + p.entry.length + imarks p.ins
def mkCd (k : Nat) (p : Cd) : Cd := ⟨marksS p.globals.length k, marksS p.locks.length (k + p.globals.length), marksS p.procs.length (k + p.globals.length + p.locks.length), mkN (k + p.globals.length + p.locks.length + p.procs.length) p.entry.length, mkIs (k + p.globals.length + p.locks.length + p.procs.length + p.entry.length) p.ins⟩
theorem shapeB_kind {k : Int} {nm se ok zr be ee : Bool} (h : shapeB k nm se ok zr be ee = true) : (1 ≤ k ∧ k ≤ 8) ∧ (k ≠ 2 → ee = true) ∧ (k ≠ 2 → k ≠ 3 → be = true) := by
  unfold shapeB at h
  split at h
  · simp at h; exact ⟨by omega, fun _ => h.2, fun _ _ => h.1.2⟩
  · split at h
    · exact ⟨by omega, fun h => absurd ‹_› h, fun h => absurd ‹_› h⟩
    · split at h
      · simp at h; exact ⟨by omega, fun _ => h.2, fun _ h => absurd ‹_› h⟩
      · split at h
        · simp at h; exact ⟨by omega, fun _ => h.2, fun _ _ => h.1.2⟩
        · split at h
          · simp at h; exact ⟨by omega, fun _ => h.2, fun _ _ => h.1.2⟩
          · cases h
theorem len_zero {α : Type} {l : List α} (h : ((l.length : Int) == 0) = true) : l = [] := by
  rw [beq_iff_eq] at h
  exact List.length_eq_zero_iff.1 (by omega)
mutual
theorem rightG_kd : ∀ (deep : Nat) (g : St), rightG deep g = true → kdT g
  | deep, .mk k s t b e, h => by
    rw [rightG_mk, Bool.and_eq_true] at h
    obtain ⟨h1, h2⟩ := h
    rw [shapeG] at h1
    obtain ⟨hk, he, hb⟩ := shapeB_kind h1
    rw [kdT]
    by_cases hm : manyB k = true
    · rw [if_pos hm, Bool.and_eq_true, Bool.and_eq_true] at h2
      exact ⟨hk.1, hk.2, rightGs_kd (deep - 1) b h2.1.2, rightGs_kd (deep - 1) e h2.2⟩
    · have h3 : k ≠ 2 ∧ k ≠ 3 := by simpa [manyB] using hm
      have e1 := len_zero (hb h3.1 h3.2)
      have e2 := len_zero (he h3.1)
      refine ⟨hk.1, hk.2, ?_, ?_⟩
      · rw [e1, kdSs]; trivial
      · rw [e2, kdSs]; trivial
theorem rightGs_kd : ∀ (deep : Nat) (l : List St), rightGs deep l = true → kdSs l
  | deep, [], _ => by rw [kdSs]; trivial
  | deep, g :: r, h => by
    rw [rightGs, Bool.and_eq_true] at h
    rw [kdSs]
    exact ⟨rightG_kd deep g h.1, rightGs_kd deep r h.2⟩
end
def endI : Ic := ⟨9, 0, zeroTm, 0⟩
def insR (e : Env) : Nat → List Pr → List Ic
  | _, [] => []
  | n, p :: r => emSs e n p.body ++ endI :: insR e (n + (emSs e n p.body).length + 1) r
def entR (e : Env) : Nat → List Pr → List Int
  | _, [] => []
  | n, p :: r => (n : Int) :: entR e (n + (emSs e n p.body).length + 1) r
theorem insR_snoc (e : Env) (p : Pr) : ∀ (l : List Pr) (n : Nat), insR e n (l ++ [p]) = insR e n l ++ emSs e (n + (insR e n l).length) p.body ++ [endI]
  | [], n => by simp [insR]
  | a :: r, n => by
    rw [List.cons_append, insR, insR, insR_snoc e p r]
    have e1 : n + (emSs e n a.body).length + 1 + (insR e (n + (emSs e n a.body).length + 1) r).length = n + (emSs e n a.body ++ endI :: insR e (n + (emSs e n a.body).length + 1) r).length := by simp; omega
    rw [e1]
    simp
theorem entR_snoc (e : Env) (p : Pr) : ∀ (l : List Pr) (n : Nat), entR e n (l ++ [p]) = entR e n l ++ [((n + (insR e n l).length : Nat) : Int)]
  | [], n => by simp [entR, insR]
  | a :: r, n => by
    rw [List.cons_append, entR, entR, insR, entR_snoc e p r]
    have e1 : n + (emSs e n a.body).length + 1 + (insR e (n + (emSs e n a.body).length + 1) r).length = n + (emSs e n a.body ++ endI :: insR e (n + (emSs e n a.body).length + 1) r).length := by simp; omega
    rw [e1]
    simp
theorem entR_len (e : Env) : ∀ (l : List Pr) (n : Nat), (entR e n l).length = l.length
  | [], n => rfl
  | a :: r, n => by rw [entR, List.length_cons, List.length_cons, entR_len e r]
theorem insR_len (e : Env) : ∀ (l : List Pr) (n : Nat), (∀ q ∈ l, snodess q.body ≤ 60) → (insR e n l).length ≤ 121 * l.length
  | [], n, _ => by simp [insR]
  | a :: r, n, h => by
    have h1 := emSs_len e n a.body
    have h2 := h a (by simp)
    have h3 := insR_len e r (n + (emSs e n a.body).length + 1) (fun q hq => h q (by simp [hq]))
    rw [insR, List.length_append, List.length_cons, List.length_cons]
    omega
def zeroCd : Cd := ⟨[], [], [], [], []⟩
def codeP (p : Pg) : Cd := ⟨p.globals, p.locks, pnames p.procs, entR (envP p) 0 p.procs, insR (envP p) 0 p.procs⟩
noncomputable def codeR (p : Pg) : Cd × Bool := if faultR p = 0 then (codeP p, true) else (zeroCd, false)
theorem codeR_bad {p : Pg} (h : ¬ faultR p = 0) : codeR p = (zeroCd, false) := by rw [codeR, if_neg h]
theorem codeR_good {p : Pg} (h : faultR p = 0) : codeR p = (codeP p, true) := by rw [codeR, if_pos h]
theorem fault_ok {p : Pg} (h : faultR p = 0) : okPg p = true := by
  rw [faultR] at h
  by_cases h1 : okPg p = false
  · rw [if_pos h1] at h; cases h
  · simpa using h1
theorem fault_facts {p : Pg} (h : faultR p = 0) : p.globals.length ≤ 6 ∧ p.locks.length ≤ 6 ∧ p.procs.length ≤ 8 ∧ ∀ q ∈ p.procs, kdSs q.body ∧ snodess q.body ≤ 60 := by
  have h1 := fault_ok h
  rw [okPg] at h1
  simp only [Bool.and_eq_true, decide_eq_true_eq, List.all_eq_true] at h1
  obtain ⟨⟨⟨hg, hl⟩, hp⟩, hq⟩ := h1
  rw [namesB, Bool.and_eq_true, decide_eq_true_eq] at hg hl
  refine ⟨hg.1, hl.1, hp, fun q hqm => ?_⟩
  have h2 := hq q hqm
  rw [okPr, Bool.and_eq_true] at h2
  have h3 := fit_inv h2.2
  exact ⟨rightGs_kd 6 q.body h3.1, h3.2⟩
theorem nodes_zeroTm : nodes zeroTm = 1 := by rw [zeroTm, nodes, nodess]
mutual
theorem imarks_emT (e : Env) : ∀ (n : Nat) (g : St), imarks (emT e n g) ≤ 12 * (1 + totG g)
  | n, .mk k s t b el => by
    have h1 := imarks_emSs e (n + 1) b
    have h2 := imarks_emSs e (n + 1 + (emSs e (n + 1) b).length + 1) el
    have ht := nodes_tot t
    have hz := nodes_zeroTm
    rw [totG]
    by_cases h3 : k = 3
    · subst h3
      rw [emT_while]
      simp only [imarks, imarks_append, hz]
      omega
    · by_cases h2' : k = 2
      · subst h2'
        by_cases h0 : el.length = 0
        · rw [emT_if0 _ _ _ _ _ _ h0]
          simp only [imarks]
          omega
        · rw [emT_if1 _ _ _ _ _ _ h0]
          simp only [imarks, imarks_append, hz]
          omega
      · rw [emT_one _ _ _ _ _ _ _ h3 h2']
        have : nodes (icOf e k s t).term ≤ 1 + totT t := by
          unfold icOf
          repeat' split
          all_goals first | exact ht | (simp only [hz]; omega)
        simp only [imarks]
        omega
theorem imarks_emSs (e : Env) : ∀ (n : Nat) (l : List St), imarks (emSs e n l) ≤ 12 * totGs l
  | n, [] => by simp [emSs, imarks]
  | n, g :: r => by
    have h1 := imarks_emT e n g
    have h2 := imarks_emSs e (n + (emT e n g).length) r
    rw [emSs, imarks_append, totGs]
    omega
end
theorem imarks_insR (e : Env) : ∀ (l : List Pr) (n : Nat), imarks (insR e n l) ≤ 12 * totPrs l
  | [], n => by simp [insR, imarks]
  | a :: r, n => by
    have h1 := imarks_emSs e n a.body
    have h2 := imarks_insR e r (n + (emSs e n a.body).length + 1)
    have hz := nodes_zeroTm
    rw [insR, imarks_append, imarks, totPrs, totPr]
    simp only [endI, hz]
    omega
theorem marks_code {p : Pg} (h : faultR p = 0) (ht : totPg p ≤ 1048576) : markC (codeP p) ≤ 12600000 := by
  obtain ⟨h1, h2, h3, _⟩ := fault_facts h
  have h4 := imarks_insR (envP p) p.procs 0
  have h5 : totPrs p.procs ≤ totPg p := by rw [totPg]; omega
  unfold markC codeP
  simp only [entR_len, pnames_len]
  omega
def RetSO (w : World) (ss : List ByteArray) (e : Ending) (w' : World) : Prop := ∃ A c, e = .returned (.slice A ss.length c) ∧ ss.length ≤ c ∧ c ≤ maxLen ∧ StrRowO w' (Made w w') A ss ∧ Below w.heap.size w w'
theorem nil_rowO (w : World) (F : Nat → Prop) (A : Option Addr) : StrRowO w F A [] := ⟨[], fun _ _ => False, RowO.nil _ _ _ _ _, fun i h => absurd h (by simp)⟩
theorem clone_row {w w2 : World} {T : TypeId} {v' : Value} {ss : List ByteArray} (own : Own w w2 9 1 v' ss.length (ss.map Value.string)) (hs : ∀ s ∈ ss, s.size ≤ maxLen) : ∃ A c, v' = .slice A ss.length c ∧ ss.length ≤ c ∧ c ≤ maxLen ∧ StrRowO w2 (Made w w2) A ss := by
  obtain ⟨A, c, rfl, hc⟩ := own.slice
  exact ⟨A, c, rfl, hc, own_cap own.1, OwnStrs.rowO (w0 := w) (c := c) own hs⟩
set_option maxHeartbeats 800000 in
set_option maxRecDepth 100000 in
theorem slices_Clone (A : Option Addr) (c : Nat) (ss : List ByteArray) (w : World) (hl : ss.length ≤ c) (hc : c ≤ maxLen) (rd : Rd w 1 A ss.length (ss.map Value.string)) (hs : ∀ s ∈ ss, s.size ≤ maxLen) (hn : ss.length ≤ 100000) :
    Calls Try.prog 49 #[.slice A ss.length c] w (RetSO w ss) := by
  have RD := Lib.hid rd
  have HS := Lib.hid hs
  clear rd hs
  cases A with
  | none =>
    have h0 : ss = [] := by
      rcases Nat.eq_zero_or_pos ss.length with h | h
      · exact List.length_eq_zero_iff.1 h
      · obtain ⟨b, off, e, _⟩ := RD.out.2 h; cases e
    subst h0
    have hq := Lib.run_eql_slice_nil_nil (P := Try.prog) w 0 c Try.underlying24
    go_enter Try.func49, Try.ntmps49
    go_wp2_with fail
    go_ret
    exact ⟨none, 0, rfl, Nat.le_refl _, by simp [maxLen], nil_rowO _ _ _, Below.refl _ _⟩
  | some a =>
    have OE : Hid (Own w (w.alloc (.cells #[] 9)) 9 1 (.slice (some ⟨w.heap.size, 0, none⟩) 0 0) 0 []) := Lib.hid ⟨World.ownsRow_lit w #[] 0 (Nat.le_refl _) (by simp [maxLen]) (by simp), Below.alloc (Below.refl _ _) (Nat.le_refl _) _⟩
    have RE : Hid (Rd (w.alloc (.cells #[] 9)) 1 (some a) ss.length (ss.map Value.string)) := Lib.hid (RD.out.below (Below.alloc (Below.refl _ _) (Nat.le_refl _) _))
    have h1 : 0 + ss.length ≤ maxLen := by unfold maxLen at *; omega
    have h2 : (0 + ss.length) * 16 ≤ 140737488355328 := by omega
    have hq := Lib.run_eql_slice_some_nil (P := Try.prog) w a ss.length c Try.underlying24
    go_enter Try.func49, Try.ntmps49
    go_wp2_with (at_builtin; refine wpList_appG rfl _ _ _ rfl strT rfl OE.out (some a) ss.length c (ss.map Value.string) rfl RE.out (by intro u hu; obtain ⟨s, _, rfl⟩ := List.mem_map.1 hu; rfl) h1 h2 ?_; intro v' w2 own gr; rw [Nat.zero_add, List.nil_append] at own; have OW := Lib.hid own; clear own gr)
    go_ret
    obtain ⟨A', c', rfl, q1, q2, q3⟩ := clone_row (T := 0) OW.out HS.out
    exact ⟨A', c', rfl, q1, q2, q3, OW.out.2⟩
def RetCO (w : World) (r : Cd × Bool) (e : Ending) (w' : World) : Prop := ∃ x : V5, e = .returned (.tuple #[x.val r.1, .bool r.2]) ∧ CdO w' (Made w w') x r.1 ∧ Below w.heap.size w w'
theorem s5_all {w : World} {g : Nat} {a b c d e : Value} {T : TypeId} (h : w.heap[g]? = some (.cells #[a, b, c, d, e] T (0, 0))) (x y z u v : Value) : (((((w.setCell ⟨g, 0, none⟩ x).setCell ⟨g, 1, none⟩ y).setCell ⟨g, 2, none⟩ z).setCell ⟨g, 3, none⟩ u).setCell ⟨g, 4, none⟩ v).heap[g]? = some (.cells #[x, y, z, u, v] T (0, 0)) := by simp [World.setCell, Array.getElem?_modify, h]
theorem s5_3 {w : World} {g : Nat} {a b c d e : Value} {T : TypeId} (h : w.heap[g]? = some (.cells #[a, b, c, d, e] T (0, 0))) (u : Value) : (w.setCell ⟨g, 3, none⟩ u).heap[g]? = some (.cells #[a, b, c, u, e] T (0, 0)) := by simp [World.setCell, Array.getElem?_modify, h]
theorem box5f {w : World} {g : Nat} {a b c d e : Value} {T : TypeId} (h : w.heap[g]? = some (.cells #[a, b, c, d, e] T (0, 0))) : w.frozen? ⟨g, 0, none⟩ = false ∧ w.frozen? ⟨g, 1, none⟩ = false ∧ w.frozen? ⟨g, 2, none⟩ = false ∧ w.frozen? ⟨g, 3, none⟩ = false ∧ w.frozen? ⟨g, 4, none⟩ = false :=
  ⟨Lib.frozen_of_heap h 0, Lib.frozen_of_heap h 1, Lib.frozen_of_heap h 2, Lib.frozen_of_heap h 3, Lib.frozen_of_heap h 4⟩
theorem five_below {n : Nat} {w0 w : World} {g : Nat} (h : Below n w0 w) (hg : n ≤ g) (x y z u v : Value) : Below n w0 (((((w.setCell ⟨g, 0, none⟩ x).setCell ⟨g, 1, none⟩ y).setCell ⟨g, 2, none⟩ z).setCell ⟨g, 3, none⟩ u).setCell ⟨g, 4, none⟩ v) :=
  ((((h.setCell (p := ⟨g, 0, none⟩) hg _).setCell (p := ⟨g, 1, none⟩) hg _).setCell (p := ⟨g, 2, none⟩) hg _).setCell (p := ⟨g, 3, none⟩) hg _).setCell (p := ⟨g, 4, none⟩) hg _
theorem box3P {w : World} {g : Nat} {a b c : Value} {T : TypeId} (h : w.heap[g]? = some (.cells #[a, b, c] T (0, 0))) : w.cell? ⟨g, 0, none⟩ = some a ∧ w.cell? ⟨g, 1, none⟩ = some b ∧ w.cell? ⟨g, 2, none⟩ = some c :=
  ⟨by rw [Lib.cell_of_heap h]; rfl, by rw [Lib.cell_of_heap h]; rfl, by rw [Lib.cell_of_heap h]; rfl⟩
theorem sp3_of {w1 w : World} {b : Nat} {x y z : Value} (h0 : w1.cell? ⟨b, 0, none⟩ = some x) (h1 : w1.cell? ⟨b, 1, none⟩ = some y) (h2 : w1.cell? ⟨b, 2, none⟩ = some z) (hb : b < w1.heap.size) (B : Below w1.heap.size w1 w) : w.cell? ⟨b, 0, none⟩ = some x ∧ w.cell? ⟨b, 1, none⟩ = some y ∧ w.cell? ⟨b, 2, none⟩ = some z ∧ Below w1.heap.size w1 w :=
  ⟨(B.cell (p := ⟨b, 0, none⟩) hb).trans h0, (B.cell (p := ⟨b, 1, none⟩) hb).trans h1, (B.cell (p := ⟨b, 2, none⟩) hb).trans h2, B⟩
theorem pnames_size {w : World} {x : V3} {p : Pg} (h : PgIs w x p) : ∀ s ∈ pnames p.procs, s.size ≤ maxLen := by
  intro s hs
  obtain ⟨q, hq, rfl⟩ := List.mem_map.1 hs
  obtain ⟨i, hi, rfl⟩ := List.getElem_of_mem hq
  obtain ⟨b, off, y, _, _, _, hy⟩ := rd_proc h.p3 hi
  rw [hy.1]
  exact hy.2.2.1
structure CoN (w1 wx : World) (kb base : Nat) (gA lA pA : Option Addr) (gc lc pc : Nat) (p : Pg) : Prop where
  hg : p.globals.length ≤ gc ∧ gc ≤ maxLen
  hl : p.locks.length ≤ lc ∧ lc ≤ maxLen
  hp : (pnames p.procs).length ≤ pc ∧ pc ≤ maxLen
  rows : ∃ H : Nat → Nat → Prop, (∀ i b, H i b → w1.heap.size ≤ b ∧ b < base ∧ b ≠ kb) ∧ (∀ i j b, i ≠ j → H i b → H j b → False) ∧ StrRowO wx (H 0) gA p.globals ∧ StrRowO wx (H 1) lA p.locks ∧ StrRowO wx (H 2) pA (pnames p.procs)
theorem CoN.keep {w1 wx wy : World} {kb base : Nat} {gA lA pA : Option Addr} {gc lc pc : Nat} {p : Pg} (h : CoN w1 wx kb base gA lA pA gc lc pc p) (hk : ∀ b, w1.heap.size ≤ b → b < base → b ≠ kb → wy.heap[b]? = wx.heap[b]?) : CoN w1 wy kb base gA lA pA gc lc pc p := by
  obtain ⟨a, b, c, H, h1, h2, r0, r1, r2⟩ := h
  have hh : ∀ i b, H i b → wy.heap[b]? = wx.heap[b]? := fun i b hb => hk b (h1 i b hb).1 (h1 i b hb).2.1 (h1 i b hb).2.2
  exact ⟨a, b, c, H, h1, h2, r0.keep fun b hb => hh 0 b hb, r1.keep fun b hb => hh 1 b hb, r2.keep fun b hb => hh 2 b hb⟩
theorem strsF_of {F : Nat → Prop} {w : World} {A : Option Addr} {c : Nat} {ss : List ByteArray} {H : Nat → Prop} (r : StrRowO w H A ss) (hl : ss.length ≤ c) (hc : c ≤ maxLen) (hF : ∀ b, b < w.heap.size → H b → F b) : StrsF F w (.slice A ss.length c) ss := by
  refine ⟨A, c, rfl, hl, hc, r.rd.1, fun b off e hn => ?_⟩
  obtain ⟨cs, G, row, _⟩ := r
  subst e
  obtain ⟨h1, h2, _⟩ := row.lt hn
  exact hF b h1 h2
theorem ints_rowO {base : Nat} {w : World} {A : Option Addr} {c : Nat} {zs : List Int} (h : OwnX base w 3 1 (.slice A zs.length c) zs.length (zs.map (Value.int .i64))) (hz : ∀ z ∈ zs, i64in z) : IntRowO w (fun b => base ≤ b ∧ b < w.heap.size ∧ (Value.slice A zs.length c).ownBlock = some b) A zs := by
  refine ⟨zs.map (Value.int .i64), fun _ _ => False, ⟨Own.rd h.own, fun hn => ?_, fun i b _ hg => hg.elim, fun i j b _ _ _ hg => hg.elim⟩, fun i hi => ⟨?_, hz _ (List.getElem_mem hi)⟩⟩
  · rcases h.1.2 with ⟨he, h0⟩ | ⟨g, cap, cur, he, hb, hg, _⟩
    · omega
    · injection he with he
      subst he
      exact ⟨g, 0, cur, _, rfl, ⟨hb, lt_of_block hg, rfl⟩, hg, fun _ _ hf => hf⟩
  · apply List.ext_getElem?
    intro j
    rw [List.getElem?_take]
    by_cases hj : j < 1
    · have : j = 0 := by omega
      subst this
      rw [if_pos (by omega), List.getElem?_drop]
      simp [hi]
    · rw [if_neg hj, List.getElem?_eq_none (by simp; omega)]
theorem intX_cap {base : Nat} {w : World} {A : Option Addr} {n c : Nat} {xs : List Value} (h : OwnX base w 3 1 (.slice A n c) n xs) : n ≤ c ∧ c ≤ maxLen := by
  obtain ⟨A', c', e, hc⟩ := own_slice h.1
  injection e with _ _ e
  subst e
  exact ⟨hc, own_cap h.1⟩
def CoS (wx wr : World) (kb base : Nat) (gA lA pA : Option Addr) (gc lc pc : Nat) (p : Pg) (T : TypeId) (j : Nat) : Prop :=
  ∃ eA ec iA n ic, wr.heap[kb]? = some (.cells #[.slice gA p.globals.length gc, .slice lA p.locks.length lc, .slice pA (pnames p.procs).length pc, .slice eA j ec, .slice iA n ic] T (0, 0)) ∧
    OwnX base wr 3 1 (.slice eA j ec) j ((entR (envP p) 0 (p.procs.take j)).map (Value.int .i64)) ∧
    GrwI base (fun b => (Value.slice eA j ec).ownBlock = some b) wr (.slice iA n ic) (insR (envP p) 0 (p.procs.take j)) ∧ Keep (fun b => b < base ∧ b ≠ kb) wx wr
theorem ent_in {e : Env} {l : List Pr} {n : Nat} (h : ∀ q ∈ l, snodess q.body ≤ 60) (hn : n + 121 * l.length ≤ 1000000) : ∀ z ∈ entR e n l, i64in z := by
  induction l generalizing n with
  | nil => intro z hz; simp [entR] at hz
  | cons a r ih =>
    intro z hz
    rw [entR] at hz
    rcases List.mem_cons.1 hz with rfl | hz
    · unfold i64in; omega
    · have h1 := emSs_len e n a.body
      have h2 := h a (by simp)
      rw [List.length_cons] at hn
      exact ih (fun q hq => h q (by simp [hq])) (by omega) z hz
theorem CoS.code {w0 w1 wx wr : World} {kb base : Nat} {gA lA pA : Option Addr} {gc lc pc : Nat} {p : Pg} {T : TypeId} (hN : CoN w1 wr kb base gA lA pA gc lc pc p) (h : CoS wx wr kb base gA lA pA gc lc pc p T p.procs.length) (hw : w0.heap.size ≤ w1.heap.size) (hkb : w1.heap.size ≤ kb) (hkb2 : kb < base) (hf : faultR p = 0) :
    ∃ eA ec iA ic, wr.heap[kb]? = some (.cells (V5.cells ⟨gA, gc, lA, lc, pA, pc, eA, ec, iA, ic⟩ (codeP p)).toArray T (0, 0)) ∧ CdO wr (fun b => w0.heap.size ≤ b ∧ b < wr.heap.size ∧ b ≠ kb) ⟨gA, gc, lA, lc, pA, pc, eA, ec, iA, ic⟩ (codeP p) := by
  obtain ⟨eA, ec, iA, n, ic, hb, he, hi, _⟩ := h
  rw [List.take_length] at he hi
  obtain ⟨A', c', e1, q1, q2⟩ := hi.slice
  injection e1 with e1 e2 e3
  subst e1 e2 e3
  obtain ⟨a, b, c, H, h1, h2, r0, r1, r2⟩ := hN
  have hcap := intX_cap he
  have hlen : (entR (envP p) 0 p.procs).length = p.procs.length := entR_len _ _ _
  have hfa := fault_facts hf
  have hbz := he.2
  have he2 : OwnX base wr 3 1 (.slice eA (entR (envP p) 0 p.procs).length ec) (entR (envP p) 0 p.procs).length ((entR (envP p) 0 p.procs).map (Value.int .i64)) := by rw [hlen]; exact he
  have hrow := ints_rowO he2 (ent_in (fun q hq => (hfa.2.2.2 q hq).2) (by omega))
  have hir := hi.row
  rw [hlen] at hrow
  refine ⟨eA, ec, iA, ic, ?_, fun i => if i < 3 then H i else if i = 3 then (fun b => base ≤ b ∧ b < wr.heap.size ∧ (Value.slice eA p.procs.length ec).ownBlock = some b) else if i = 4 then (fun b => base ≤ b ∧ b < wr.heap.size ∧ ¬ (Value.slice eA p.procs.length ec).ownBlock = some b) else fun _ => False, fun i b h => ?_, fun i j b hne ha hb => ?_, ⟨a.1, a.2, r0⟩, ⟨b.1, b.2, r1⟩, ⟨c.1, c.2, r2⟩, ⟨by show (entR (envP p) 0 p.procs).length ≤ ec; omega, hcap.2, hrow⟩, ⟨q1, q2, hir⟩⟩
  · rw [hb]
    show _ = some (Obj.cells #[.slice gA p.globals.length gc, .slice lA p.locks.length lc, .slice pA (pnames p.procs).length pc, .slice eA (entR (envP p) 0 p.procs).length ec, .slice iA (insR (envP p) 0 p.procs).length ic] T (0, 0))
    rw [hlen]
  · simp only at h
    split at h
    · have := h1 i b h; omega
    · split at h
      · omega
      · split at h
        · omega
        · exact h.elim
  · simp only at ha hb
    split at ha
    · have hA := h1 i b ha
      split at hb
      · exact h2 i j b hne ha hb
      · split at hb
        · omega
        · split at hb
          · omega
          · exact hb
    · split at ha
      · split at hb
        · have := h1 j b hb; omega
        · split at hb
          · omega
          · split at hb
            · exact hb.2.2 ha.2.2
            · exact hb
      · split at ha
        · split at hb
          · have := h1 j b hb; omega
          · split at hb
            · exact ha.2.2 hb.2.2
            · split at hb
              · omega
              · exact hb
        · exact ha
def RetLo (W : World) (ss : List ByteArray) (e : Ending) (w' : World) : Prop := ∃ A c lo, e = .returned (.slice A ss.length c) ∧ (ss.length ≤ c ∧ c ≤ maxLen) ∧ W.heap.size ≤ lo ∧ lo ≤ W.heap.size ∧ Hid (StrRowO w' (fun b => lo ≤ b ∧ b < w'.heap.size) A ss) ∧ Below W.heap.size W w'
theorem cloneG_at (p : Pg) (x : V3) (W : World) (hp : PgIs W x p) (h : p.globals.length ≤ 100000) : Calls Try.prog 49 #[.slice x.gA p.globals.length x.gc] W (RetLo W p.globals) :=
  (slices_Clone x.gA x.gc p.globals W hp.g1 hp.g2 hp.g3 hp.g4 h).mono fun e w' ⟨A, c, h1, h2, h3, h4, h5⟩ => ⟨A, c, W.heap.size, h1, ⟨h2, h3⟩, Nat.le_refl _, Nat.le_refl _, Lib.hid h4, h5⟩
theorem cloneL_at (p : Pg) (x : V3) (W : World) (hp : PgIs W x p) (h : p.locks.length ≤ 100000) : Calls Try.prog 49 #[.slice x.lA p.locks.length x.lc] W (RetLo W p.locks) :=
  (slices_Clone x.lA x.lc p.locks W hp.l1 hp.l2 hp.l3 hp.l4 h).mono fun e w' ⟨A, c, h1, h2, h3, h4, h5⟩ => ⟨A, c, W.heap.size, h1, ⟨h2, h3⟩, Nat.le_refl _, Nat.le_refl _, Lib.hid h4, h5⟩
theorem names_at (p : Pg) (x : V3) (W : World) (hp : PgIs W x p) (h : p.procs.length ≤ 100000) : Calls Try.prog 27 #[.agg #[.slice x.gA p.globals.length x.gc, .slice x.lA p.locks.length x.lc, .slice x.pA p.procs.length x.pc]] W (RetLo W (pnames p.procs)) :=
  (impl_procNames p x W hp (by omega)).mono fun e w' ⟨A, c, h1, h2⟩ => ⟨A, c, W.heap.size, h1, by obtain ⟨A', c', e1, hc⟩ := own_slice h2.1; injection e1 with _ _ e1; subst e1; exact ⟨hc, own_cap h2.1⟩, Nat.le_refl _, Nat.le_refl _, Lib.hid (OwnStrs.rowO h2 (pnames_size hp)), h2.2⟩
theorem coN_of {w1 F W : World} {kb loG loL loN : Nat} {wG wL wN : World} {gA lA pA : Option Addr} {gc lc pc : Nat} {p : Pg} (hg : p.globals.length ≤ gc ∧ gc ≤ maxLen) (hl : p.locks.length ≤ lc ∧ lc ≤ maxLen) (hp : (pnames p.procs).length ≤ pc ∧ pc ≤ maxLen)
    (rg : StrRowO wG (fun b => loG ≤ b ∧ b < wG.heap.size) gA p.globals) (rl : StrRowO wL (fun b => loL ≤ b ∧ b < wL.heap.size) lA p.locks) (rn : StrRowO wN (fun b => loN ≤ b ∧ b < wN.heap.size) pA (pnames p.procs))
    (bg : Below wG.heap.size wG F) (bl : Below wL.heap.size wL F) (bn : Below wN.heap.size wN F) (hW : ∀ b, b ≠ kb → W.heap[b]? = F.heap[b]?) (hz : W.heap.size = F.heap.size)
    (lg : w1.heap.size ≤ loG) (ll : w1.heap.size ≤ loL) (ln : w1.heap.size ≤ loN) (kg : kb < loG ∨ wG.heap.size ≤ kb) (kl : kb < loL ∨ wL.heap.size ≤ kb) (kn : kb < loN ∨ wN.heap.size ≤ kb)
    (d1 : wG.heap.size ≤ loL ∨ wL.heap.size ≤ loG) (d2 : wG.heap.size ≤ loN ∨ wN.heap.size ≤ loG) (d3 : wL.heap.size ≤ loN ∨ wN.heap.size ≤ loL) : CoN w1 W kb W.heap.size gA lA pA gc lc pc p := by
  have sg := bg.size
  have sl := bl.size
  have sn := bn.size
  refine ⟨hg, hl, hp, fun i b => (i = 0 ∧ loG ≤ b ∧ b < wG.heap.size) ∨ (i = 1 ∧ loL ≤ b ∧ b < wL.heap.size) ∨ (i = 2 ∧ loN ≤ b ∧ b < wN.heap.size), fun i b h => by omega, fun i j b hne h h' => by omega, ?_, ?_, ?_⟩
  · exact RowOf.subR (rg.keep fun b hb => (hW b (by omega)).trans (bg.block b hb.2)) fun b hb => .inl ⟨rfl, hb⟩
  · exact RowOf.subR (rl.keep fun b hb => (hW b (by omega)).trans (bl.block b hb.2)) fun b hb => .inr (.inl ⟨rfl, hb⟩)
  · exact RowOf.subR (rn.keep fun b hb => (hW b (by omega)).trans (bn.block b hb.2)) fun b hb => .inr (.inr ⟨rfl, hb⟩)
theorem five_other {w : World} {g : Nat} (x y z u v : Value) : ∀ b, b ≠ g → (((((w.setCell ⟨g, 0, none⟩ x).setCell ⟨g, 1, none⟩ y).setCell ⟨g, 2, none⟩ z).setCell ⟨g, 3, none⟩ u).setCell ⟨g, 4, none⟩ v).heap[b]? = w.heap[b]? := fun b hb => by
  rw [Below.heap_setCell _ _ _ _ hb, Below.heap_setCell _ _ _ _ hb, Below.heap_setCell _ _ _ _ hb, Below.heap_setCell _ _ _ _ hb, Below.heap_setCell _ _ _ _ hb]
theorem con_done {w1 F W : World} {kb loG loL loN : Nat} {wG wL wN : World} {gA lA pA : Option Addr} {gc lc pc : Nat} {p : Pg} {T : TypeId} {a b c d e x y z u v : Value} (hW : (((((F.setCell ⟨kb, 0, none⟩ x).setCell ⟨kb, 1, none⟩ y).setCell ⟨kb, 2, none⟩ z).setCell ⟨kb, 3, none⟩ u).setCell ⟨kb, 4, none⟩ v) = W) (hg : p.globals.length ≤ gc ∧ gc ≤ maxLen) (hl : p.locks.length ≤ lc ∧ lc ≤ maxLen) (hp : (pnames p.procs).length ≤ pc ∧ pc ≤ maxLen)
    (rg : StrRowO wG (fun b => loG ≤ b ∧ b < wG.heap.size) gA p.globals) (rl : StrRowO wL (fun b => loL ≤ b ∧ b < wL.heap.size) lA p.locks) (rn : StrRowO wN (fun b => loN ≤ b ∧ b < wN.heap.size) pA (pnames p.procs))
    (bg : Below wG.heap.size wG F) (bl : Below wL.heap.size wL F) (bn : Below wN.heap.size wN F) (hb : F.heap[kb]? = some (.cells #[a, b, c, d, e] T (0, 0))) (BF : Below w1.heap.size w1 F) (hk : w1.heap.size ≤ kb)
    (lg : w1.heap.size ≤ loG) (ll : w1.heap.size ≤ loL) (ln : w1.heap.size ≤ loN) (kg : kb < loG ∨ wG.heap.size ≤ kb) (kl : kb < loL ∨ wL.heap.size ≤ kb) (kn : kb < loN ∨ wN.heap.size ≤ kb)
    (d1 : wG.heap.size ≤ loL ∨ wL.heap.size ≤ loG) (d2 : wG.heap.size ≤ loN ∨ wN.heap.size ≤ loG) (d3 : wL.heap.size ≤ loN ∨ wN.heap.size ≤ loL) :
    CoN w1 W kb W.heap.size gA lA pA gc lc pc p ∧ w1.heap.size ≤ kb ∧ kb < W.heap.size ∧ Below w1.heap.size w1 W ∧ W.heap[kb]? = some (.cells #[x, y, z, u, v] T (0, 0)) := by
  subst hW
  have hz := lt_of_block hb
  exact ⟨coN_of hg hl hp rg rl rn bg bl bn (five_other x y z u v) (by simp) lg ll ln kg kl kn d1 d2 d3, hk, by simpa using hz, five_below BF hk x y z u v, s5_all hb x y z u v⟩
theorem coS_zero {wx : World} {kb base : Nat} {gA lA pA : Option Addr} {gc lc pc : Nat} {p : Pg} {T : TypeId} (hkb : wx.heap[kb]? = some (.cells #[.slice gA p.globals.length gc, .slice lA p.locks.length lc, .slice pA (pnames p.procs).length pc, .slice none 0 0, .slice none 0 0] T (0, 0))) (hb : base ≤ wx.heap.size) : CoS wx wx kb base gA lA pA gc lc pc p T 0 :=
  ⟨none, 0, none, 0, 0, hkb, ⟨World.ownsRow_nil _ _ _ _, hb⟩, GrwX.nil hb, Keep.refl _ _⟩
theorem box2P {w : World} {g : Nat} {a b : Value} {T : TypeId} (h : w.heap[g]? = some (.cells #[a, b] T (0, 0))) : w.cell? ⟨g, 0, none⟩ = some a ∧ w.cell? ⟨g, 1, none⟩ = some b :=
  ⟨by rw [Lib.cell_of_heap h]; rfl, by rw [Lib.cell_of_heap h]; rfl⟩
theorem ent_app {base kb j c j' c' : Nat} {A A' : Option Addr} {u0 w7 : World} {ents : List Value} {x : Value} {iv : Value} {cur : List Ic} {T : TypeId} {a b d e : Value} (ow : OwnX base u0 3 1 (.slice A j c) j ents) (gi : GrwI base (fun b => (Value.slice A j c).ownBlock = some b) u0 iv cur) (hkb : kb < base) (hk : u0.heap[kb]? = some (.cells #[a, b, d, .slice A j c, e] T (0, 0)))
    (own7 : Own (cutX base u0) w7 3 1 (.slice A' j' c') j' (ents ++ [x])) (gr : Grew (.slice A j c) (.slice A' j' c') u0 w7) :
    (w7.setCell ⟨kb, 3, none⟩ (.slice A' j' c')).heap[kb]? = some (.cells #[a, b, d, .slice A' j' c', e] T (0, 0)) ∧ OwnX base (w7.setCell ⟨kb, 3, none⟩ (.slice A' j' c')) 3 1 (.slice A' j' c') j' (ents ++ [x]) ∧
    GrwI base (fun b => (Value.slice A' j' c').ownBlock = some b) (w7.setCell ⟨kb, 3, none⟩ (.slice A' j' c')) iv cur ∧ Keep (fun b => b < base ∧ b ≠ kb) u0 (w7.setCell ⟨kb, 3, none⟩ (.slice A' j' c')) := by
  have hne : ∀ b, b < base → (Value.slice A j c).ownBlock ≠ some b := fun b hb e => by have := (ow.lt b e).1; omega
  have hk7 : w7.heap[kb]? = some (.cells #[a, b, d, .slice A j c, e] T (0, 0)) := (gr.keep.block kb (lt_of_block hk) (hne kb hkb)).trans hk
  have ow7 := OwnX.of (w := u0) ow.2 own7
  have hne7 : ∀ b, b < base → (Value.slice A' j' c').ownBlock ≠ some b := fun b hb e => by have := (ow7.lt b e).1; omega
  refine ⟨s5_3 hk7 _, ow7.setO (hne7 kb hkb) _, ?_, ?_⟩
  · have g1 : GrwI base (fun b => (Value.slice A j c).ownBlock = some b ∨ (Value.slice A' j' c').ownBlock = some b) u0 iv cur := gi.zsub fun b _ hb h => h.elim id fun h => by
      rcases gr.lies with h1 | ⟨g, h1, h2⟩
      · rw [← h1]; exact h
      · rw [h1] at h; injection h with h; omega
    have g2 := g1.keep IcP.keepP gr.keep (fun b _ _ h => fun e => h (.inl e))
    have g3 := g2.keep IcP.keepP (S := fun b => b ≠ kb) (Keep.setCell (Keep.refl _ _) (p := ⟨kb, 3, none⟩) (fun h => h rfl) (.slice A' j' c')) (fun b h1 _ _ => by show b ≠ kb; omega)
    exact g3.zsub fun b _ _ h => .inr h
  · exact (gr.keep.mono (fun b _ h => hne b h.1)).setCell (p := ⟨kb, 3, none⟩) (fun h => h.2 rfl) _
theorem alloc_facts {u v : World} {cs : Array Value} {T : TypeId} (h : u.alloc (.cells cs T) = v) : v.heap[u.heap.size]? = some (.cells cs T (0, 0)) ∧ Below u.heap.size u v ∧ u.heap.size + 1 ≤ v.heap.size ∧ v.heap.size ≤ u.heap.size + 1 := by
  subst h
  exact ⟨heap_alloc_new _ _, Below.alloc (Below.refl _ _) (Nat.le_refl _) _, by simp, by simp⟩
end Go.Proofs.Ytadcebdhgocmhaa
