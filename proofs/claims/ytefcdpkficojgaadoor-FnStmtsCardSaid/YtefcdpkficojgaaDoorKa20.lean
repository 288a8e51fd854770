/- Several texts in one: Mark, Owned. -/
import Derived.Test.YtefcdpkficojgaaDoorKa14
import Derived.Test.YtefcdpkficojgaaDoorKa4
import Derived.Deep.RegionHeld3
import Derived.Test.YtefcdpkficojgaaDoorKa2
import Derived.Laws.Rows
namespace Go.Proofs.YtefcdpkficojgaaDoor
open Go.RowKit
set_option linter.unusedVariables false


/-- v is the call's own row of the texts ss -/
def OwnStrs (w0 w : World) (v : Value) (ss : List ByteArray) : Prop := Own w0 w 9 1 v ss.length (ss.map Value.string)
theorem OwnStrs.is {w0 w : World} {v : Value} {ss : List ByteArray} (h : OwnStrs w0 w v ss) : ∃ A c, v = .slice A ss.length c ∧ ss.length ≤ c ∧ Rd w 1 A ss.length (ss.map Value.string) := by
  obtain ⟨A, c, e, hc⟩ := h.slice
  subst e
  exact ⟨A, c, rfl, hc, h.rd⟩
theorem OwnStrs.below {w0 w w' : World} {v : Value} {ss : List ByteArray} (h : OwnStrs w0 w v ss) (hb : Below w.heap.size w w') : OwnStrs w0 w' v ss := Own.below h hb
theorem own_cap {w : World} {base : Nat} {e : TypeId} {sz n c : Nat} {A : Option Addr} {xs : List Value} (h : w.ownsRow base e sz (.slice A n c) n xs) : c ≤ maxLen := by
  rcases h.2 with ⟨h1, _⟩ | ⟨g, cap, cur, h1, _, _, _, hm, _⟩
  · injection h1 with _ _ h2; subst h2; simp [maxLen]
  · injection h1 with _ _ h2; subst h2; exact hm
theorem OwnStrs.isStrs {w0 w : World} {v : Value} {ss : List ByteArray} (h : OwnStrs w0 w v ss) : IsStrs w v ss := by
  obtain ⟨A, c, e, hc⟩ := h.slice
  subst e
  exact ⟨A, c, rfl, hc, own_cap h.1, h.rd⟩

/-- a row of n things of sz cells in a block of F of its own; G i: the blocks of what hangs on thing i -/
def RowO (w : World) (F : Nat → Prop) (sz : Nat) (A : Option Addr) (n : Nat) (cs : List Value) (G : Nat → Nat → Prop) : Prop :=
  Rd w sz A n cs ∧ (0 < n → ∃ b off cur e, A = some ⟨b, off, none⟩ ∧ F b ∧ w.heap[b]? = some (.cells cur e (0, 0)) ∧ ∀ i, i < n → ¬ G i b) ∧ (∀ i b, i < n → G i b → F b) ∧ ∀ i j b, i < n → j < n → i ≠ j → G i b → G j b → False
theorem RowO.nil (w : World) (F : Nat → Prop) (sz : Nat) (A : Option Addr) (G : Nat → Nat → Prop) : RowO w F sz A 0 [] G := ⟨Rd.nil, fun h => absurd h (by omega), fun i b h => absurd h (by omega), fun i j b h => absurd h (by omega)⟩
theorem RowO.sub {w : World} {F F' : Nat → Prop} {sz n : Nat} {A : Option Addr} {cs : List Value} {G : Nat → Nat → Prop} (h : RowO w F sz A n cs G) (hF : ∀ b, F b → F' b) : RowO w F' sz A n cs G :=
  ⟨h.1, fun hn => by obtain ⟨b, off, cur, e, h1, h2, h3⟩ := h.2.1 hn; exact ⟨b, off, cur, e, h1, hF b h2, h3⟩, fun i b hi hg => hF b (h.2.2.1 i b hi hg), h.2.2.2⟩
theorem RowO.keep {w w' : World} {F : Nat → Prop} {sz n : Nat} {A : Option Addr} {cs : List Value} {G : Nat → Nat → Prop} (h : RowO w F sz A n cs G) (hk : ∀ b, F b → w'.heap[b]? = w.heap[b]?) : RowO w' F sz A n cs G := by
  obtain ⟨rd, h1, h2, h3⟩ := h
  refine ⟨⟨rd.1, fun hn => ?_⟩, fun hn => ?_, h2, h3⟩
  · obtain ⟨b, off, e, hc⟩ := rd.2 hn
    obtain ⟨b', off', cur, ty, e', hF, _⟩ := h1 hn
    rw [e] at e'
    injection e' with e'
    injection e' with e1 e2
    subst e1 e2
    exact ⟨b, off, e, fun j u hu => (World.cell?_of_block (w := w) (a := ⟨b, off + j, none⟩) (hk b hF)).trans (hc j u hu)⟩
  · obtain ⟨b, off, cur, e, e1, hF, hb, hG⟩ := h1 hn
    exact ⟨b, off, cur, e, e1, hF, (hk b hF).trans hb, hG⟩
theorem RowO.lt {w : World} {F : Nat → Prop} {sz n : Nat} {b off : Nat} {cs : List Value} {G : Nat → Nat → Prop} (h : RowO w F sz (some ⟨b, off, none⟩) n cs G) (hn : 0 < n) : b < w.heap.size ∧ F b ∧ ∃ cur e, w.heap[b]? = some (.cells cur e (0, 0)) := by
  obtain ⟨b', off', cur, e, e1, hF, hb, _⟩ := h.2.1 hn
  injection e1 with e1
  injection e1 with e1 e2
  subst e1 e2
  refine ⟨?_, hF, cur, e, hb⟩
  rcases Nat.lt_or_ge b w.heap.size with hlt | hge
  · exact hlt
  · rw [Array.getElem?_eq_none hge] at hb; cases hb
/-- blocks of plain cells that F lets -/
def Pl (w : World) (F : Nat → Prop) : Nat → Prop := fun b => F b ∧ ∃ cur e, w.heap[b]? = some (.cells cur e (0, 0))
/-- blocks made between two worlds -/
def Made (w w' : World) : Nat → Prop := fun b => w.heap.size ≤ b ∧ b < w'.heap.size
/-- a row of things, each read by P, in blocks of F, all apart -/
def RowOf {α : Type} (P : World → (Nat → Prop) → List Value → α → Prop) (w : World) (F : Nat → Prop) (sz : Nat) (A : Option Addr) (xs : List α) : Prop :=
  ∃ cs G, RowO w F sz A xs.length cs G ∧ ∀ i (h : i < xs.length), P w (G i) ((cs.drop (i * sz)).take sz) xs[i]
end Go.Proofs.YtefcdpkficojgaaDoor
