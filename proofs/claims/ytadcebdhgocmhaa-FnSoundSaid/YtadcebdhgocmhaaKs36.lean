/- Several texts in one: GrwX, GrwPr, SkR, StepG. -/
import Derived.Test.YtadcebdhgocmhaaKs31
import Derived.Test.YtadcebdhgocmhaaKs16
import Derived.Test.YtadcebdhgocmhaaKs17
import Derived.Test.YtadcebdhgocmhaaKs19
import Derived.Test.YtadcebdhgocmhaaKs1
import Derived.Deep.RegionHeld3
import Derived.StillTail
import Derived.Deep.RegionLaw
namespace Go.Proofs.Ytadcebdhgocmhaa
open Go.RowKit
set_option linter.unusedVariables false


theorem flat_take {sz : Nat} : ∀ (cs : List (List Value)) (i : Nat) (h : i < cs.length), (∀ c ∈ cs, c.length = sz) → (cs.flatten.drop (i * sz)).take sz = cs[i]
  | [], i, h, _ => by simp at h
  | c :: r, 0, h, hc => by
    have h1 := hc c (by simp)
    simp only [List.flatten_cons, Nat.zero_mul, List.drop_zero, List.getElem_cons_zero]
    rw [← h1, List.take_left]
  | c :: r, i + 1, h, hc => by
    have h1 := hc c (by simp)
    have ih := flat_take r i (by simpa using h) (fun d hd => hc d (by simp [hd]))
    have e : (i + 1) * sz = c.length + i * sz := by rw [h1, Nat.add_mul, Nat.one_mul, Nat.add_comm]
    simp only [List.flatten_cons, List.getElem_cons_succ]
    rw [e, List.drop_append, List.drop_of_length_le (by omega), Nat.add_sub_cancel_left, List.nil_append]
    exact ih
theorem flat_cell {sz : Nat} (cs : List (List Value)) (i j : Nat) (h : i < cs.length) (hc : ∀ c ∈ cs, c.length = sz) (hj : j < sz) (hj' : j < cs[i].length) : cs.flatten[i * sz + j]? = some cs[i][j] := by
  have h1 := flat_take cs i h hc
  have h2 : ((cs.flatten.drop (i * sz)).take sz)[j]? = some cs[i][j] := by rw [h1]; exact List.getElem?_eq_getElem hj'
  rw [List.getElem?_take_of_lt hj, List.getElem?_drop] at h2
  exact h2
theorem flat_setG {sz : Nat} (u : Value) {j : Nat} (hj : j < sz) : ∀ (cs : List (List Value)) (i : Nat) (h : i < cs.length), (∀ c ∈ cs, c.length = sz) → cs.flatten.set (i * sz + j) u = (cs.set i (cs[i].set j u)).flatten
  | [], i, h, _ => by simp at h
  | c :: r, 0, h, hc => by
    have h1 := hc c (by simp)
    simp only [List.flatten_cons, Nat.zero_mul, Nat.zero_add, List.getElem_cons_zero, List.set_cons_zero]
    rw [List.set_append_left _ _ (by omega)]
  | c :: r, i + 1, h, hc => by
    have h1 := hc c (by simp)
    have ih := flat_setG u hj r i (by simpa using h) (fun d hd => hc d (by simp [hd]))
    have e : (i + 1) * sz + j = c.length + (i * sz + j) := by rw [h1, Nat.add_mul, Nat.one_mul]; omega
    simp only [List.flatten_cons, List.getElem_cons_succ, List.set_cons_succ]
    rw [e, List.set_append_right _ _ (by omega), Nat.add_sub_cancel_left, ih]
abbrev KeepsP {α : Type} (P : World → (Nat → Prop) → List Value → α → Prop) : Prop := ∀ w w' G cells x, P w G cells x → (∀ b, G b → w'.heap[b]? = w.heap[b]?) → P w' G cells x
section
variable {α : Type} {P : World → (Nat → Prop) → List Value → α → Prop} {e : TypeId} {sz base : Nat} {Z Z' : Nat → Prop} {w w' w0 w1 w2 : World} {v v' : Value} {l : List α} {cs : List (List Value)} {G : Nat → Nat → Prop}
/-- v is a row of l in blocks from base on that are not of Z, each element's memory apart -/
structure GrwAt (P : World → (Nat → Prop) → List Value → α → Prop) (e : TypeId) (sz base : Nat) (Z : Nat → Prop) (w : World) (v : Value) (l : List α) (cs : List (List Value)) (G : Nat → Nat → Prop) : Prop where
  len : cs.length = l.length
  size : ∀ c ∈ cs, c.length = sz
  ow : OwnX base w e sz v l.length cs.flatten
  clear : ∀ b, v.ownBlock = some b → ¬ Z b
  mem : ∀ i b, i < l.length → G i b → base ≤ b ∧ b < w.heap.size ∧ v.ownBlock ≠ some b ∧ ¬ Z b
  apart : ∀ i j b, i < l.length → j < l.length → i ≠ j → G i b → G j b → False
  is : ∀ i (h : i < l.length) (h' : i < cs.length), P w (G i) cs[i] l[i]
def GrwX (P : World → (Nat → Prop) → List Value → α → Prop) (e : TypeId) (sz base : Nat) (Z : Nat → Prop) (w : World) (v : Value) (l : List α) : Prop := ∃ cs G, GrwAt P e sz base Z w v l cs G
theorem GrwAt.slice (h : GrwAt P e sz base Z w v l cs G) : ∃ A c, v = .slice A l.length c ∧ l.length ≤ c ∧ c ≤ maxLen := by
  obtain ⟨A, c, rfl, hc⟩ := own_slice h.ow.1
  exact ⟨A, c, rfl, hc, own_cap' h.ow.own⟩
theorem GrwX.slice (h : GrwX P e sz base Z w v l) : ∃ A c, v = .slice A l.length c ∧ l.length ≤ c ∧ c ≤ maxLen := by
  obtain ⟨cs, G, h⟩ := h
  exact h.slice
theorem GrwX.nil (hb : base ≤ w.heap.size) : GrwX P e sz base Z w (.slice none 0 0) [] :=
  ⟨[], fun _ _ => False, rfl, fun c h => absurd h (by simp), ⟨World.ownsRow_nil _ _ _ _, hb⟩, fun b h => (by cases h), fun i b h => absurd h (by simp), fun i j b h => absurd h (by simp), fun i h => absurd h (by simp)⟩
theorem GrwX.empty (hb : base ≤ w.heap.size) (hZ : ¬ Z w.heap.size) : GrwX P e sz base Z (w.alloc (.cells #[] e)) (.slice (some ⟨w.heap.size, 0, none⟩) 0 0) [] :=
  ⟨[], fun _ _ => False, rfl, fun c h => absurd h (by simp), ⟨World.ownsRow_lit w #[] 0 hb (by simp [maxLen]) (by simp), by simp; omega⟩, fun b h => (by injection h with h; rw [← h]; exact hZ), fun i b h => absurd h (by simp), fun i j b h => absurd h (by simp), fun i h => absurd h (by simp)⟩
theorem GrwAt.keep (hP : KeepsP P) {S : Nat → Prop} (h : GrwAt P e sz base Z w v l cs G) (hk : Keep S w w') (hS : ∀ b, base ≤ b → b < w.heap.size → ¬ Z b → S b) : GrwAt P e sz base Z w' v l cs G :=
  ⟨h.len, h.size, h.ow.keep hk (fun b hb => hS b (h.ow.lt b hb).1 (h.ow.lt b hb).2 (h.clear b hb)), h.clear, fun i b hi hb => by
    have := h.mem i b hi hb
    exact ⟨this.1, Nat.lt_of_lt_of_le this.2.1 hk.size, this.2.2⟩, h.apart, fun i hi hi' => hP _ _ _ _ _ (h.is i hi hi') fun b hb => by
    have := h.mem i b hi hb
    exact hk.block b this.2.1 (hS b this.1 this.2.1 this.2.2.2)⟩
theorem GrwX.keep (hP : KeepsP P) {S : Nat → Prop} (h : GrwX P e sz base Z w v l) (hk : Keep S w w') (hS : ∀ b, base ≤ b → b < w.heap.size → ¬ Z b → S b) : GrwX P e sz base Z w' v l := by
  obtain ⟨cs, G, h⟩ := h
  exact ⟨cs, G, h.keep hP hk hS⟩
theorem GrwX.below (hP : KeepsP P) (h : GrwX P e sz base Z w v l) (hb : Below w.heap.size w w') : GrwX P e sz base Z w' v l := h.keep hP (Keep.of_below (S := fun _ => True) hb) (fun _ _ _ _ => trivial)
/-- one more, whose memory was made since -/
theorem grwx_app (hP : KeepsP P) {S H : Nat → Prop} {x : List Value} {g : α} (h : GrwAt P e sz base Z w0 v l cs G) (hk : Keep S w0 w1) (hS : ∀ b, base ≤ b → b < w0.heap.size → ¬ Z b → S b)
    (hx : x.length = sz) (ht : P w1 H x g) (hH : ∀ b, H b → w0.heap.size ≤ b ∧ b < w1.heap.size ∧ ¬ Z b) (hZ : ∀ b, w1.heap.size ≤ b → ¬ Z b)
    (own3 : Own (cutX base w1) w2 e sz v' (l.length + 1) (cs.flatten ++ x)) (gr : Grew v v' w1 w2) : GrwX P e sz base Z w2 v' (l ++ [g]) := by
  have h01 := hk.size
  have h12 := gr.keep.size
  have hb0 := h.ow.2
  have hlt := h.ow.lt
  have key : ∀ b, b < w1.heap.size → v.ownBlock ≠ some b → v'.ownBlock ≠ some b := by
    intro b hb hv e
    rcases gr.lies with h1 | ⟨q, h1, h2⟩
    · exact hv (h1 ▸ e)
    · rw [h1] at e; injection e with e; omega
  have hn : ∀ b, w0.heap.size ≤ b → v.ownBlock ≠ some b := fun b hb e => by have := hlt b e; omega
  have hlen : (l ++ [g]).length = l.length + 1 := by simp
  refine ⟨cs ++ [x], fun i b => if i < l.length then G i b else H b, by simp [h.len], fun c hc => ?_, ?_, fun b hb hz => ?_, fun i b hi hb => ?_, fun i j b hi hj hne h1 h2 => ?_, fun i hi hi' => ?_⟩
  · rcases List.mem_append.1 hc with h1 | h1
    · exact h.size c h1
    · rw [List.mem_singleton.1 h1]; exact hx
  · rw [hlen, List.flatten_append]
    have e1 : [x].flatten = x := by simp
    rw [e1]
    exact OwnX.of (by omega) own3
  · rcases gr.lies with h1 | ⟨q, h1, h2⟩
    · exact h.clear b (h1 ▸ hb) hz
    · rw [h1] at hb; injection hb with hb; exact hZ b (by omega) hz
  · by_cases e : i < l.length
    · simp only [e, if_true] at hb
      have := h.mem i b e hb
      exact ⟨this.1, by omega, key b (by omega) this.2.2.1, this.2.2.2⟩
    · simp only [e, if_false] at hb
      have h1 := hH b hb
      exact ⟨by omega, by omega, key b h1.2.1 (hn b h1.1), h1.2.2⟩
  · rw [hlen] at hi hj
    by_cases e : i < l.length
    · by_cases e' : j < l.length
      · simp only [e, e', if_true] at h1 h2; exact h.apart i j b e e' hne h1 h2
      · simp only [e, e', if_true, if_false] at h1 h2; have := h.mem i b e h1; have := hH b h2; omega
    · by_cases e' : j < l.length
      · simp only [e, e', if_true, if_false] at h1 h2; have := h.mem j b e' h2; have := hH b h1; omega
      · omega
  · rw [hlen] at hi
    have hl := h.len
    by_cases e : i < l.length
    · have e2 : i < cs.length := by omega
      simp only [e, if_true]
      rw [List.getElem_append_left e2, List.getElem_append_left e]
      have hb := fun b hb => h.mem i b e hb
      exact hP _ _ _ _ _ (hP _ _ _ _ _ (h.is i e e2) fun b q => hk.block b (hb b q).2.1 (hS b (hb b q).1 (hb b q).2.1 (hb b q).2.2.2)) fun b q => gr.keep.block b (by have := (hb b q).2.1; omega) (hb b q).2.2.1
    · have e2 : i = l.length := by omega
      subst e2
      simp only [Nat.lt_irrefl, if_false]
      have e3 : (cs ++ [x])[l.length] = x := by simp [← hl]
      have e4 : (l ++ [g])[l.length] = g := by simp
      rw [e3, e4]
      exact hP _ _ _ _ _ ht fun b q => gr.keep.block b (hH b q).2.1 (hn b (hH b q).1)
/-- a cell of an element is stored -/
theorem GrwAt.set (hP : KeepsP P) {b c k j : Nat} {u : Value} {g : α} (h : GrwAt P e sz base Z w (.slice (some ⟨b, 0, none⟩) l.length c) l cs G) (hk : k < l.length) (hk' : k < cs.length) (hj : j < sz) (hq : ∀ w', P w' (G k) cs[k] l[k] → P w' (G k) (cs[k].set j u) g) :
    GrwX P e sz base Z (w.setCell ⟨b, k * sz + j, none⟩ u) (.slice (some ⟨b, 0, none⟩) l.length c) (l.set k g) := by
  have hl := h.len
  have ho : ∀ b', (Value.slice (some ⟨b, 0, none⟩) l.length c).ownBlock ≠ some b' → b' ≠ b := fun b' h e => h (by rw [e]; rfl)
  have hkp : ∀ i (hi : i < l.length) (hi' : i < cs.length), P (w.setCell ⟨b, k * sz + j, none⟩ u) (G i) cs[i] l[i] := fun i hi hi' => hP _ _ _ _ _ (h.is i hi hi') fun b' hb' => Below.heap_setCell w ⟨b, k * sz + j, none⟩ u b' (ho b' (h.mem i b' hi hb').2.2.1)
  refine ⟨cs.set k (cs[k].set j u), G, by simp [hl], fun x hx => ?_, ?_, h.clear, fun i b' hi hb' => ?_, fun i i' b' hi hi' => h.apart i i' b' (by simpa using hi) (by simpa using hi'), fun i hi hi' => ?_⟩
  · rcases List.mem_or_eq_of_mem_set hx with h1 | h1
    · exact h.size x h1
    · rw [h1, List.length_set]; exact h.size _ (List.getElem_mem hk')
  · rw [← flat_setG u hj cs k hk' h.size, List.length_set]
    have := h.ow.own.set (k * sz + j) u
    exact OwnX.of h.ow.2 this
  · have := h.mem i b' (by simpa using hi) hb'
    exact ⟨this.1, by simpa using this.2.1, this.2.2⟩
  · by_cases e : i = k
    · subst e
      rw [List.getElem_set_self, List.getElem_set_self]
      exact hq _ (hkp i hk hk')
    · rw [List.getElem_set_ne (Ne.symm e), List.getElem_set_ne (Ne.symm e)]
      exact hkp i (by simpa using hi) (by simpa using hi')
theorem GrwAt.cell {b c k j : Nat} (h : GrwAt P e sz base Z w (.slice (some ⟨b, 0, none⟩) l.length c) l cs G) (hk : k < cs.length) (hj : j < sz) (hj' : j < cs[k].length) : w.cell? ⟨b, k * sz + j, none⟩ = some cs[k][j] := by
  refine h.ow.own.cellAt ?_ (flat_cell cs k j hk h.size hj hj')
  have h1 : (k + 1) * sz ≤ l.length * sz := Nat.mul_le_mul_right sz (by have := h.len; omega)
  rw [Nat.add_mul, Nat.one_mul] at h1
  omega
theorem GrwAt.free {b c : Nat} (h : GrwAt P e sz base Z w (.slice (some ⟨b, 0, none⟩) l.length c) l cs G) (j : Nat) : w.frozen? ⟨b, j, none⟩ = false := h.ow.own.freeAt j
theorem GrwX.row {A : Option Addr} {c : Nat} (h : GrwX P e sz base Z w (.slice A l.length c) l) : RowOf P w (fun b => base ≤ b ∧ b < w.heap.size ∧ ¬ Z b) sz A l := by
  obtain ⟨cs, G, h⟩ := h
  have hl := h.len
  refine ⟨cs.flatten, G, ⟨h.ow.own.rd, fun hn => ?_, fun i b hi hb => ⟨(h.mem i b hi hb).1, (h.mem i b hi hb).2.1, (h.mem i b hi hb).2.2.2⟩, h.apart⟩, fun i hi => ?_⟩
  · have hcl := h.clear
    have hm := h.mem
    rcases h.ow.1.2 with ⟨h1, _⟩ | ⟨g, cap, cur, h1, hb, hg, _⟩
    · injection h1 with _ h2; omega
    · injection h1 with h1 h2
      subst h1
      exact ⟨g, 0, cur, _, rfl, ⟨hb, lt_of_block hg, hcl g rfl⟩, hg, fun i hi hb => (hm i g hi hb).2.2.1 rfl⟩
  · rw [flat_take cs i (by omega) h.size]
    exact h.is i hi (by omega)
end

def PrO (w : World) (G : Nat → Prop) (x : V2) (p : Pr) : Prop := p.name = x.s ∧ x.m = p.body.length ∧ x.s.size ≤ maxLen ∧ p.body.length ≤ x.c ∧ x.c ≤ maxLen ∧ StRowO w G x.A p.body
theorem PrO.keep {w w' : World} {G : Nat → Prop} {x : V2} {p : Pr} (h : PrO w G x p) (hk : ∀ b, G b → w'.heap[b]? = w.heap[b]?) : PrO w' G x p := ⟨h.1, h.2.1, h.2.2.1, h.2.2.2.1, h.2.2.2.2.1, h.2.2.2.2.2.keep hk⟩
theorem PrO.sub {w : World} {G G' : Nat → Prop} {x : V2} {p : Pr} (h : PrO w G x p) (hG : ∀ b, G b → G' b) : PrO w G' x p := ⟨h.1, h.2.1, h.2.2.1, h.2.2.2.1, h.2.2.2.2.1, h.2.2.2.2.2.sub hG⟩
/-- v is a row of procedures in blocks from base on, each one's memory apart -/
def GrwP (base : Nat) (w : World) (v : Value) (l : List Pr) : Prop :=
  ∃ (xs : List V2) (G : Nat → Nat → Prop), xs.length = l.length ∧ OwnX base w 31 2 v l.length (xs.flatMap V2.cells) ∧ (∀ i b, i < l.length → G i b → base ≤ b ∧ b < w.heap.size ∧ v.ownBlock ≠ some b) ∧ (∀ i j b, i < l.length → j < l.length → i ≠ j → G i b → G j b → False) ∧ ∀ i (h : i < l.length) (h' : i < xs.length), PrO w (G i) xs[i] l[i]
theorem GrwP.slice {base : Nat} {w : World} {v : Value} {l : List Pr} (h : GrwP base w v l) : ∃ A c, v = .slice A l.length c ∧ l.length ≤ c ∧ c ≤ maxLen := by
  obtain ⟨xs, G, hl, ow, _⟩ := h
  obtain ⟨A, c, rfl, hc⟩ := own_slice ow.1
  exact ⟨A, c, rfl, hc, own_cap' ow.own⟩
theorem GrwP.nil {base : Nat} {w : World} (hb : base ≤ w.heap.size) : GrwP base w (.slice none 0 0) [] :=
  ⟨[], fun _ _ => False, rfl, ⟨World.ownsRow_nil _ _ _ _, hb⟩, fun i b h => absurd h (by simp), fun i j b h => absurd h (by simp), fun i h => absurd h (by simp)⟩
theorem GrwP.empty {base : Nat} {w : World} (hb : base ≤ w.heap.size) : GrwP base (w.alloc (.cells #[] 31)) (.slice (some ⟨w.heap.size, 0, none⟩) 0 0) [] :=
  ⟨[], fun _ _ => False, rfl, ⟨World.ownsRow_lit w #[] 0 hb (by simp [maxLen]) rfl, by simp; omega⟩, fun i b h => absurd h (by simp), fun i j b h => absurd h (by simp), fun i h => absurd h (by simp)⟩
theorem GrwP.keep {base : Nat} {w w' : World} {v : Value} {l : List Pr} {S : Nat → Prop} (h : GrwP base w v l) (hk : Keep S w w') (hS : ∀ b, base ≤ b → b < w.heap.size → S b) : GrwP base w' v l := by
  obtain ⟨xs, G, hl, ow, hG, hd, hx⟩ := h
  refine ⟨xs, G, hl, ow.keep hk (fun b hb => hS b (ow.lt b hb).1 (ow.lt b hb).2), fun i b hi hb => ?_, hd, fun i hi hi' => (hx i hi hi').keep fun b hb => ?_⟩
  · have := hG i b hi hb
    exact ⟨this.1, Nat.lt_of_lt_of_le this.2.1 hk.size, this.2.2⟩
  · have := hG i b hi hb
    exact hk.block b this.2.1 (hS b this.1 this.2.1)
theorem GrwP.below {base : Nat} {w w' : World} {v : Value} {l : List Pr} (h : GrwP base w v l) (hb : Below w.heap.size w w') : GrwP base w' v l := h.keep (Keep.of_below (S := fun _ => True) hb) (fun _ _ _ => trivial)
theorem GrwP.row {base : Nat} {w : World} {A : Option Addr} {c : Nat} {l : List Pr} (h : GrwP base w (.slice A l.length c) l) : PrRowO w (fun b => base ≤ b ∧ b < w.heap.size) A l := by
  obtain ⟨xs, G, hl, ow, hG, hd, hx⟩ := h
  refine ⟨_, G, ⟨ow.own.rd, fun hn => ?_, fun i b hi hb => ⟨(hG i b hi hb).1, (hG i b hi hb).2.1⟩, hd⟩, fun i h => ⟨xs[i], flat_chunk V2.cells 2 v2_len xs i (by omega), hx i h (by omega)⟩⟩
  rcases ow.1.2 with ⟨h, _⟩ | ⟨g, cap, cur, h, hb, hg, _⟩
  · injection h with _ h2; omega
  · injection h with h1 h2
    subst h1
    exact ⟨g, 0, cur, _, rfl, ⟨hb, lt_of_block hg⟩, hg, fun i hi hb => (hG i g hi hb).2.2 rfl⟩
/-- v is a row of names in a block from base on -/
def GrwS (base : Nat) (w : World) (v : Value) (l : List ByteArray) : Prop := OwnX base w 9 1 v l.length (l.map Value.string) ∧ ∀ s ∈ l, s.size ≤ maxLen
theorem GrwS.slice {base : Nat} {w : World} {v : Value} {l : List ByteArray} (h : GrwS base w v l) : ∃ A c, v = .slice A l.length c ∧ l.length ≤ c ∧ c ≤ maxLen := by
  obtain ⟨A, c, rfl, hc⟩ := own_slice h.1.1
  exact ⟨A, c, rfl, hc, own_cap' h.1.own⟩
theorem GrwS.nil {base : Nat} {w : World} (hb : base ≤ w.heap.size) : GrwS base w (.slice none 0 0) [] := ⟨⟨World.ownsRow_nil _ _ _ _, hb⟩, fun s h => absurd h (by simp)⟩
theorem GrwS.empty {base : Nat} {w : World} (hb : base ≤ w.heap.size) : GrwS base (w.alloc (.cells #[] 9)) (.slice (some ⟨w.heap.size, 0, none⟩) 0 0) [] := ⟨⟨World.ownsRow_lit w #[] 0 hb (by simp [maxLen]) rfl, by simp; omega⟩, fun s h => absurd h (by simp)⟩
theorem GrwS.keep {base : Nat} {w w' : World} {v : Value} {l : List ByteArray} {S : Nat → Prop} (h : GrwS base w v l) (hk : Keep S w w') (hS : ∀ b, base ≤ b → b < w.heap.size → S b) : GrwS base w' v l := ⟨h.1.keep hk (fun b hb => hS b (h.1.lt b hb).1 (h.1.lt b hb).2), h.2⟩
theorem GrwS.below {base : Nat} {w w' : World} {v : Value} {l : List ByteArray} (h : GrwS base w v l) (hb : Below w.heap.size w w') : GrwS base w' v l := h.keep (Keep.of_below (S := fun _ => True) hb) (fun _ _ _ => trivial)
theorem GrwS.app {base : Nat} {w1 w2 : World} {v v' : Value} {l : List ByteArray} {x : ByteArray} (h : GrwS base w1 v l) (hx : x.size ≤ maxLen) (own3 : Own (cutX base w1) w2 9 1 v' (l.length + 1) (l.map Value.string ++ [.string x])) : GrwS base w2 v' (l ++ [x]) := by
  refine ⟨?_, fun s hs => ?_⟩
  · rw [List.length_append, List.map_append]
    exact OwnX.of h.1.2 own3
  · rcases List.mem_append.1 hs with h1 | h1
    · exact h.2 s h1
    · rw [List.mem_singleton.1 h1]; exact hx
theorem GrwS.row {base : Nat} {w : World} {A : Option Addr} {c : Nat} {l : List ByteArray} (h : GrwS base w (.slice A l.length c) l) : StrRowO w (fun b => base ≤ b ∧ b < w.heap.size) A l :=
  RowOf.subR (OwnStrs.rowO (w0 := cutX base w) h.1.own h.2) (fun b hb => ⟨by have := hb.1; rw [cutX_size h.1.2] at this; exact this, hb.2⟩)

section
variable {P : Program} {ops : Array Oper} {Q : Exit → Act → World → Prop} {md : Region.Mode} {S : World → Prop} {n : Nat}
/-- whatever order is picked; S holds behind every operation but number n -/
def wpSk (P : Program) (md : Region.Mode) (ops : Array Oper) (Q : Exit → Act → World → Prop) (S : World → Prop) (n : Nat) : Nat → Array Bool → Act → World → Prop
  | 0, listed, a, w => Region.ready md ops listed = [] ∧ Q .normal a w
  | f + 1, listed, a, w => (Region.ready md ops listed = [] → Q .normal a w) ∧ ∀ i ∈ Region.ready md ops listed, wpOp P ops Q i (fun a' w' => (i < n → S w') ∧ wpSk P md ops Q S n f (listed.setIfInBounds i true) a' w') a w
theorem wpAny_of_sk : ∀ (f : Nat) (listed : Array Bool) (a : Act) (w : World), wpSk P md ops Q S n f listed a w → wpAny P md ops Q f listed a w
  | 0, _, _, _, h => h
  | f + 1, _, _, _, h => ⟨h.1, fun i hi => wpOp_mono (fun a' w' h' => wpAny_of_sk f _ a' w' h'.2) (h.2 i hi)⟩
/-- the operations listed are closed under what each waits for; number n and what is behind it is not listed -/
def headB (md : Region.Mode) (ops : Array Oper) (n : Nat) (listed : Array Bool) : Bool :=
  decide (listed.size = ops.size) && ((List.range ops.size).all fun j => !listed.getD j false || (match ops[j]? with | some oj => oj.after.all fun e => !Region.binds md e || listed.getD e.on false | none => true)) && ((List.range ops.size).all fun t => decide (t < n) || !listed.getD t true)
theorem headB_inv {listed : Array Bool} (h : headB md ops n listed = true) : HeadInv md ops n listed := by
  unfold headB at h
  simp only [Bool.and_eq_true, decide_eq_true_eq, List.all_eq_true, List.mem_range, Bool.or_eq_true, Bool.not_eq_true'] at h
  obtain ⟨⟨h1, h2⟩, h3⟩ := h
  refine ⟨h1, fun j oj hj hl e he hb => ?_, fun t ht ht' => ?_⟩
  · have hjs : j < ops.size := (Array.getElem?_eq_some_iff.1 hj).1
    rcases h2 j hjs with h | h
    · rw [h] at hl; cases hl
    · rw [hj] at h
      have := Array.all_eq_true_iff_forall_mem.1 h e he
      rw [hb] at this
      simpa using this
  · rcases h3 t ht' with h | h
    · omega
    · exact h
theorem wpSk_first {i : Nat} {oi : Oper} {v : Value} (hi : ops[i]? = some oi) (hsel : ∀ (j : Nat) (o : Oper) cs b, ops[j]? = some o → o.op ≠ .select cs b)
    (hQ : ∀ c a w, Q (.panic c) (a.put oi.dst v) w → Q (.panic c) a w) (hs : Region.sinkB md ops n = true) (hc : Region.chainB md ops n = true) (hn : n < ops.size) (hin : i < n) :
    ∀ (f : Nat) (listed : Array Bool) (a : Act) (w : World), HeadInv md ops n listed →
      (∀ j oj, ops[j]? = some oj → j ≠ i → listed.getD j true = false → (∀ e ∈ oj.after, Region.binds md e = true → e.on ≠ i) → oi.apart ops oj = true) →
      i ∈ Region.ready md ops listed → YieldsIf P ops S oi v a → S w →
      wpSk P md ops Q S n f (listed.setIfInBounds i true) (a.put oi.dst v) w → wpSk P md ops Q S n (f + 1) listed a w := by
  intro f
  induction f with
  | zero =>
    intro listed a w inv hfree hr hy hS H
    refine ⟨fun h0 => (by rw [h0] at hr; cases hr), fun j hj => ?_⟩
    by_cases hji : j = i
    · subst hji; exact hy.wpOp hi hS ⟨fun _ => hS, H⟩
    · have hm := ready_mono hj hji
      rw [H.1] at hm
      cases hm
  | succ f ih =>
    intro listed a w inv hfree hr hy hS H
    have hun := (mem_ready.1 hr).1
    refine ⟨fun h0 => (by rw [h0] at hr; cases hr), fun j hj => ?_⟩
    by_cases hji : j = i
    · subst hji; exact hy.wpOp hi hS ⟨fun _ => hS, H⟩
    · have hjn : j < n := by
        rcases Nat.lt_or_ge j n with h | h
        · exact h
        · exact absurd hj (tail_waits hs hc hn inv _ i rfl hin hun j h)
      have hstep := H.2 j (ready_mono hj hji)
      obtain ⟨hjun, oj, hoj, hall⟩ := mem_ready.1 hj
      have hnot : ∀ e ∈ oj.after, Region.binds md e = true → e.on ≠ i := fun e he hb heq => by
        have q := hall e he hb
        rw [heq, getD_both hun] at q
        cases q
      have h2 := wpOp_putIf hoj (hfree j oj hoj hji hjun hnot) (fun cs b => hsel i oi cs b hi) (fun cs b => hsel j oj cs b hoj) hQ hy hstep
      refine wpOp_mono (fun a' w' h3 => ⟨fun _ => h3.2.1 hjn, ih (listed.setIfInBounds j true) a' w' (inv.set hj hjn) (fun k ok hk hki hku hno => ?_) (ready_mono hr (Ne.symm hji)) h3.1 (h3.2.1 hjn) ?_⟩) h2
      · refine hfree k ok hk hki ?_ hno
        by_cases hjk : j = k
        · subst hjk; exact hjun
        · rwa [getD_set_ne true hjk] at hku
      · have := h3.2.2
        rwa [Array.setIfInBounds_comm _ _ hji]
def skB (md : Region.Mode) (ops : Array Oper) (n : Nat) (listed : Array Bool) (i : Nat) : Bool :=
  Region.noSelect ops && Region.free md ops listed i && (Region.ready md ops listed).contains i && Region.sinkB md ops n && Region.chainB md ops n && decide (n < ops.size) && decide (i < n) && headB md ops n listed
/-- number i is taken first: what it yields hangs on S alone -/
theorem wpSk_take {i : Nat} {oi : Oper} {v : Value} {f : Nat} {listed : Array Bool} {a : Act} {w : World} (hi : ops[i]? = some oi) (hB : skB md ops n listed i = true)
    (hQ : ∀ c a w, Q (.panic c) (a.put oi.dst v) w → Q (.panic c) a w) (hy : YieldsIf P ops S oi v a) (hS : S w)
    (h : wpSk P md ops Q S n f (listed.setIfInBounds i true) (a.put oi.dst v) w) : wpSk P md ops Q S n (f + 1) listed a w := by
  unfold skB at hB
  simp only [Bool.and_eq_true, decide_eq_true_eq] at hB
  obtain ⟨⟨⟨⟨⟨⟨⟨h1, h2⟩, h3⟩, h4⟩, h5⟩, h6⟩, h7⟩, h8⟩ := hB
  exact wpSk_first hi (Region.noSelect_spec h1) hQ h4 h5 h6 h7 f listed a w (headB_inv h8) (Region.free_spec hi h2) (by simpa using h3) hy hS h
/-- one alone may come up -/
theorem wpSk_step {i : Nat} {o : Oper} {f : Nat} {listed : Array Bool} {a : Act} {w : World} (hr : Region.ready md ops listed = [i]) (ho : ops[i]? = some o)
    (h : ∀ K : Act → World → Prop, Shut (∀ a w, (i < n → S w) → wpSk P md ops Q S n f (listed.setIfInBounds i true) a w → K a w) → if Region.wanted o (yielded ops a.tmps) = true then Oper.wp P o a w K Q else K (a.put o.dst undef) w) :
    wpSk P md ops Q S n (f + 1) listed a w := by
  refine ⟨fun h0 => (by rw [hr] at h0; cases h0), fun j hj => ?_⟩
  rw [hr, List.mem_singleton] at hj
  subst hj
  exact wpOp_step ho (fun K hK => h K (fun a w h1 h2 => hK a w ⟨h1, h2⟩))
theorem wpSk_done {listed : Array Bool} {a : Act} {w : World} (hr : Region.ready md ops listed = []) (h : Q .normal a w) : ∀ f, wpSk P md ops Q S n f listed a w
  | 0 => ⟨hr, h⟩
  | _ + 1 => ⟨fun _ => h, by rw [hr]; simp⟩
/-- the beginning -/
theorem wp_region_sk (S : World → Prop) (n : Nat) {id : Nat} {a : Act} {w : World} (hm : P.follows .mixedOrders = true) (hS : S w.drew)
    (h : S w.drew → wpSk P .any ops Q S n ops.size (Array.replicate ops.size false) a w.drew) : (Code.region id ops true).wp P Q a w :=
  wp_region_any hm (wpAny_of_sk _ _ _ _ (h hS))
end

theorem step_appG {w0 w : World} {v : Value} {n : Nat} {xs : List Value} {o : Oper} {a : Act} {Q : Exit → Act → World → Prop} {ops : Array Oper} {K : Act → World → Prop} {E : Prop} (t : TypeId) {e : TypeId} {sz bt : Nat} (T : ElemT Try.prog t e sz bt) (hgd : o.guard = none) (sl x : Operand) (ho : o.op = .call { callee := .builtin .append, args := #[sl, x], argTypes := #[t, t] }) (hs : a.eval sl = v) (own : Own w0 w e sz v n xs) (A : Option Addr) (m c : Nat) (news : List Value) (hx : a.eval x = .slice A m c) (rd : Rd w sz A m news) (h1 : ∀ u ∈ news, u.oneCell' = true) (hb : n + m ≤ 2000000) (hbt : bt ≤ 1000)
    (h : ∀ v' w', Own w0 w' e sz v' (n + m) (xs ++ news) → Grew v v' w w' → K (a.put o.dst v') w') : if Region.wanted o (yielded ops a.tmps) = true then Oper.wp Try.prog o a w K Q else E := by
  have hw : Region.wanted o (yielded ops a.tmps) = true := by simp [Region.wanted, hgd]
  rw [if_pos hw]
  obtain ⟨v', w', hr, h2, h3⟩ := run_appG (P := Try.prog) t o.type e sz bt T v n xs own A m c news rd h1 (by simp only [maxLen]; omega) (Nat.le_trans (Nat.mul_le_mul hb hbt) (by decide))
  unfold Oper.wp execOp
  simp only [ho, resolve, invoke, builtin, Sem.run_bind, Sem.run_pure, Result.andThen_ok, List.map_toArray, List.map_cons, List.map_nil, hs, hx, hr]
  exact h v' w' h2 h3
end Go.Proofs.Ytadcebdhgocmhaa
