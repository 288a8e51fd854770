/- Several texts in one: PgTo. -/
import Derived.Test.YtadcebdhgocmhaaKs18
import Derived.Test.YtadcebdhgocmhaaKs15
namespace Go.Proofs.Ytadcebdhgocmhaa
open Go.RowKit
set_option linter.unusedVariables false


def StrP (w : World) (G : Nat → Prop) (cells : List Value) (s : ByteArray) : Prop := cells = [.string s] ∧ s.size ≤ maxLen
abbrev StrRowO (w : World) (F : Nat → Prop) (A : Option Addr) (ss : List ByteArray) : Prop := RowOf StrP w F 1 A ss
theorem StrP.keepP : ∀ w w' G cells x, StrP w G cells x → (∀ b, G b → w'.heap[b]? = w.heap[b]?) → StrP w' G cells x := fun _ _ _ _ _ h _ => h
def PrP (w : World) (G : Nat → Prop) (cells : List Value) (p : Pr) : Prop := ∃ x : V2, cells = x.cells ∧ p.name = x.s ∧ x.m = p.body.length ∧ x.s.size ≤ maxLen ∧ p.body.length ≤ x.c ∧ x.c ≤ maxLen ∧ StRowO w G x.A p.body
abbrev PrRowO (w : World) (F : Nat → Prop) (A : Option Addr) (l : List Pr) : Prop := RowOf PrP w F 2 A l
theorem PrP.keepP : ∀ w w' G cells x, PrP w G cells x → (∀ b, G b → w'.heap[b]? = w.heap[b]?) → PrP w' G cells x := fun _ _ _ _ _ ⟨x, e, a1, a2, a3, a4, a5, r⟩ hk => ⟨x, e, a1, a2, a3, a4, a5, r.keep hk⟩
theorem RowOf.keepR {α : Type} {P : World → (Nat → Prop) → List Value → α → Prop} (hP : ∀ w w' G cells x, P w G cells x → (∀ b, G b → w'.heap[b]? = w.heap[b]?) → P w' G cells x) {w w' : World} {F : Nat → Prop} {sz : Nat} {A : Option Addr} {xs : List α} (h : RowOf P w F sz A xs) (hk : ∀ b, F b → w'.heap[b]? = w.heap[b]?) : RowOf P w' F sz A xs := by
  obtain ⟨cs, G, row, hx⟩ := h
  exact ⟨cs, G, row.keep hk, fun i hi => hP _ _ _ _ _ (hx i hi) fun b hb => hk b (row.2.2.1 i b hi hb)⟩
theorem RowOf.subR {α : Type} {P : World → (Nat → Prop) → List Value → α → Prop} {w : World} {F F' : Nat → Prop} {sz : Nat} {A : Option Addr} {xs : List α} (h : RowOf P w F sz A xs) (hF : ∀ b, F b → F' b) : RowOf P w F' sz A xs := by
  obtain ⟨cs, G, r, hx⟩ := h
  exact ⟨cs, G, r.sub hF, hx⟩
theorem StrRowO.keep {w w' : World} {F : Nat → Prop} {A : Option Addr} {ss : List ByteArray} (h : StrRowO w F A ss) (hk : ∀ b, F b → w'.heap[b]? = w.heap[b]?) : StrRowO w' F A ss := RowOf.keepR StrP.keepP h hk
theorem PrRowO.keep {w w' : World} {F : Nat → Prop} {A : Option Addr} {l : List Pr} (h : PrRowO w F A l) (hk : ∀ b, F b → w'.heap[b]? = w.heap[b]?) : PrRowO w' F A l := RowOf.keepR PrP.keepP h hk
theorem StrRowO.set {w : World} {F : Nat → Prop} {A : Option Addr} {l : List ByteArray} (h : StrRowO w F A l) {p : Addr} (hp : ¬ F p.block) (u : Value) : StrRowO (w.setCell p u) F A l := h.keep fun b hb => Below.heap_setCell w p u b (fun e => hp (by rw [← e]; exact hb))
theorem PrRowO.set {w : World} {F : Nat → Prop} {A : Option Addr} {l : List Pr} (h : PrRowO w F A l) {p : Addr} (hp : ¬ F p.block) (u : Value) : PrRowO (w.setCell p u) F A l := h.keep fun b hb => Below.heap_setCell w p u b (fun e => hp (by rw [← e]; exact hb))
theorem StrRowO.rd {w : World} {F : Nat → Prop} {A : Option Addr} {ss : List ByteArray} (h : StrRowO w F A ss) : Rd w 1 A ss.length (ss.map Value.string) ∧ ∀ s ∈ ss, s.size ≤ maxLen := by
  obtain ⟨cs, G, row, hx⟩ := h
  constructor
  · have e : cs = ss.map Value.string := by
      apply List.ext_getElem
      · rw [row.1.1]; simp
      · intro i h1 h2
        rw [row.1.1] at h1
        have hi : i < ss.length := by omega
        have := (hx i hi).1
        have h3 : ((cs.drop (i * 1)).take 1)[0]? = some (Value.string ss[i]) := by rw [this]; rfl
        rw [List.getElem?_take, if_pos (by omega), List.getElem?_drop, Nat.mul_one, Nat.add_zero] at h3
        rw [List.getElem?_eq_getElem (by omega)] at h3
        injection h3 with h3
        rw [h3]; simp
    rw [← e]; exact row.1
  · intro s hs
    obtain ⟨i, hi, rfl⟩ := List.getElem_of_mem hs
    exact (hx i hi).2
theorem PrRowO.any {w : World} {F : Nat → Prop} {A : Option Addr} {l : List Pr} (h : PrRowO w F A l) : PrRow w A l := by
  obtain ⟨cs, G, row, hx⟩ := h
  obtain ⟨xs, hl, hxs⟩ := list_of l.length (fun i (x : V2) => (cs.drop (i * 2)).take 2 = x.cells ∧ ∀ h : i < l.length, PrIs w x l[i]) (fun i hi => by obtain ⟨x, e, a1, a2, a3, a4, a5, r⟩ := hx i hi; exact ⟨x, e, fun _ => ⟨a1, a2, a3, a4, a5, r.any⟩⟩)
  refine ⟨xs, hl, ?_, fun i h h' => (hxs i h').2 h⟩
  have e : cs = xs.flatMap V2.cells := by
    apply List.ext_getElem?
    intro j
    by_cases hj : j < l.length * 2
    · have e1 : j = (j / 2) * 2 + j % 2 := by omega
      have hk : j / 2 < xs.length := by omega
      rw [e1, chunk_get (by omega) (hxs _ hk).1, flat_get V2.cells 2 v2_len _ _ _ hk (by omega)]
    · rw [List.getElem?_eq_none (by rw [row.1.1]; omega), List.getElem?_eq_none (by rw [flat_length V2.cells 2 v2_len]; omega)]
  rw [← e, hl]; exact row.1
/-- a program all of whose memory lies in F, its three lists apart -/
def PgO (w : World) (F : Nat → Prop) (x : V3) (p : Pg) : Prop := ∃ G L P : Nat → Prop, (∀ b, G b → F b) ∧ (∀ b, L b → F b) ∧ (∀ b, P b → F b) ∧ (∀ b, G b → L b → False) ∧ (∀ b, G b → P b → False) ∧ (∀ b, L b → P b → False) ∧
  p.globals.length ≤ x.gc ∧ x.gc ≤ maxLen ∧ StrRowO w G x.gA p.globals ∧ p.locks.length ≤ x.lc ∧ x.lc ≤ maxLen ∧ StrRowO w L x.lA p.locks ∧ p.procs.length ≤ x.pc ∧ x.pc ≤ maxLen ∧ PrRowO w P x.pA p.procs
theorem PgO.any {w : World} {F : Nat → Prop} {x : V3} {p : Pg} (h : PgO w F x p) : PgIs w x p := by
  obtain ⟨G, L, P, _, _, _, _, _, _, a1, a2, a3, b1, b2, b3, c1, c2, c3⟩ := h
  exact ⟨a1, a2, a3.rd.1, a3.rd.2, b1, b2, b3.rd.1, b3.rd.2, c1, c2, c3.any⟩
theorem PgO.keep {w w' : World} {F : Nat → Prop} {x : V3} {p : Pg} (h : PgO w F x p) (hk : ∀ b, F b → w'.heap[b]? = w.heap[b]?) : PgO w' F x p := by
  obtain ⟨G, L, P, s1, s2, s3, d1, d2, d3, a1, a2, a3, b1, b2, b3, c1, c2, c3⟩ := h
  exact ⟨G, L, P, s1, s2, s3, d1, d2, d3, a1, a2, a3.keep fun b h => hk b (s1 b h), b1, b2, b3.keep fun b h => hk b (s2 b h), c1, c2, c3.keep fun b h => hk b (s3 b h)⟩
theorem OwnStrs.rowO {w0 w : World} {A : Option Addr} {c : Nat} {ss : List ByteArray} (h : OwnStrs w0 w (.slice A ss.length c) ss) (hs : ∀ s ∈ ss, s.size ≤ maxLen) : StrRowO w (Made w0 w) A ss := by
  refine ⟨ss.map Value.string, fun _ _ => False, ⟨Own.rd h, fun hn => ?_, fun i b _ hg => hg.elim, fun i j b _ _ _ hg => hg.elim⟩, fun i hi => ⟨?_, hs _ (List.getElem_mem hi)⟩⟩
  · rcases h.1.2 with ⟨he, h0⟩ | ⟨g, cap, cur, he, hb, hg, _⟩
    · omega
    · injection he with he
      exact ⟨g, 0, cur, _, he, ⟨hb, lt_of_block hg⟩, hg, fun _ _ hf => hf⟩
  · apply List.ext_getElem?
    intro j
    rw [List.getElem?_take]
    by_cases hj : j < 1
    · have : j = 0 := by omega
      subst this
      rw [if_pos (by omega), List.getElem?_drop]
      simp [hi]
    · rw [if_neg hj, List.getElem?_eq_none (by simp; omega)]
theorem prT : ElemT Try.prog 25 31 2 40 := ElemT.mk' (z := .agg #[.string ByteArray.empty, .slice none 0 0]) Try.underlying25 (by kernel_rfl) rfl (by decide)
end Go.Proofs.Ytadcebdhgocmhaa
