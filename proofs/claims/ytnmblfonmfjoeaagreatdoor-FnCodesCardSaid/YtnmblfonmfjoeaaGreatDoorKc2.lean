/- Lemmas for the row. -/
import Derived.Test.YtnmblfonmfjoeaaGreatDoorKc1
import Derived.Laws.Rows
import Derived.Deep.QuietTactic
import Derived.BigQuiet
import Derived.SliceStrings
import Derived.Deep.RegionHeld3
import Derived.Lib.SmallJoins
namespace Go.Proofs.YtnmblfonmfjoeaaGreatDoor
open Go.RowKit
set_option maxHeartbeats 400000
set_option linter.unusedVariables false
def RowO (w : World) (F : Nat → Prop) (sz : Nat) (A : Option Addr) (n : Nat) (cs : List Value) (G : Nat → Nat → Prop) : Prop :=
 Rd w sz A n cs ∧ (0 < n → ∃ b off cur e, A = some ⟨b, off, none⟩ ∧ F b ∧ w.heap[b]? = some (.cells cur e (0, 0)) ∧ ∀ i, i < n → ¬ G i b) ∧ (∀ i b, i < n → G i b → F b) ∧ ∀ i j b, i < n → j < n → i ≠ j → G i b → G j b → False
theorem RowO.nil (w : World) (F : Nat → Prop) (sz : Nat) (A : Option Addr) (G : Nat → Nat → Prop) : RowO w F sz A 0 [] G := ⟨Rd.nil, fun h => absurd h (by omega), fun i b h => absurd h (by omega), fun i j b h => absurd h (by omega)⟩
theorem RowO.sub {w : World} {F F' : Nat → Prop} {sz n : Nat} {A : Option Addr} {cs : List Value} {G : Nat → Nat → Prop} (h : RowO w F sz A n cs G) (hF : ∀ b, F b → F' b) : RowO w F' sz A n cs G :=
 ⟨h.1, fun hn => by obtain ⟨b, off, cur, e, h1, h2, h3⟩ := h.2.1 hn; exact ⟨b, off, cur, e, h1, hF b h2, h3⟩, fun i b hi hg => hF b (h.2.2.1 i b hi hg), h.2.2.2⟩
theorem RowO.keep {w w' : World} {F : Nat → Prop} {sz n : Nat} {A : Option Addr} {cs : List Value} {G : Nat → Nat → Prop} (h : RowO w F sz A n cs G) (hk : ∀ b, F b → w'.heap[b]? = w.heap[b]?) : RowO w' F sz A n cs G := by
 obtain ⟨rd, h1, h2, h3⟩ := h
 refine ⟨⟨rd.1, fun hn => ?_⟩, fun hn => ?_, h2, h3⟩
 ·obtain ⟨b, off, e, hc⟩ := rd.2 hn
  obtain ⟨b', off', cur, ty, e', hF, _⟩ := h1 hn
  rw [e] at e'
  injection e' with e'
  injection e' with e1 e2
  subst e1 e2
  exact ⟨b, off, e, fun j u hu => (World.cell?_of_block (w := w) (a := ⟨b, off + j, none⟩) (hk b hF)).trans (hc j u hu)⟩
 ·obtain ⟨b, off, cur, e, e1, hF, hb, hG⟩ := h1 hn
  exact ⟨b, off, cur, e, e1, hF, (hk b hF).trans hb, hG⟩
theorem RowO.lt {w : World} {F : Nat → Prop} {sz n : Nat} {b off : Nat} {cs : List Value} {G : Nat → Nat → Prop} (h : RowO w F sz (some ⟨b, off, none⟩) n cs G) (hn : 0 < n) : b < w.heap.size ∧ F b ∧ ∃ cur e, w.heap[b]? = some (.cells cur e (0, 0)) := by
 obtain ⟨b', off', cur, e, e1, hF, hb, _⟩ := h.2.1 hn
 injection e1 with e1
 injection e1 with e1 e2
 subst e1 e2
 refine ⟨?_, hF, cur, e, hb⟩
 rcases Nat.lt_or_ge b w.heap.size with hlt | hge
 ·exact hlt
 ·rw [Array.getElem?_eq_none hge] at hb; cases hb
def Pl (w : World) (F : Nat → Prop) : Nat → Prop := fun b => F b ∧ ∃ cur e, w.heap[b]? = some (.cells cur e (0, 0))
def Made (w w' : World) : Nat → Prop := fun b => w.heap.size ≤ b ∧ b < w'.heap.size
theorem plain_set {w : World} {b : Nat} (h : ∃ cur e, w.heap[b]? = some (.cells cur e (0, 0))) (g o : Nat) (u : Value) : ∃ cur e, (w.setCell ⟨g, o, none⟩ u).heap[b]? = some (.cells cur e (0, 0)) := by
 obtain ⟨cur, e, h⟩ := h
 by_cases hb : b = g
 ·subst hb
  exact ⟨_, e, heap_setCell_same w b o cur e u h⟩
 ·exact ⟨cur, e, (Below.heap_setCell w ⟨g, o, none⟩ u b hb).trans h⟩
def RowOf {α : Type} (P : World → (Nat → Prop) → List Value → α → Prop) (w : World) (F : Nat → Prop) (sz : Nat) (A : Option Addr) (xs : List α) : Prop :=
 ∃ cs G, RowO w F sz A xs.length cs G ∧ ∀ i (h : i < xs.length), P w (G i) ((cs.drop (i * sz)).take sz) xs[i]
theorem plain_free {w : World} {b : Nat} (h : ∃ cur e, w.heap[b]? = some (.cells cur e (0, 0))) (o : Nat) : w.frozen? ⟨b, o, none⟩ = false := by
 obtain ⟨cur, e, h⟩ := h
 simp [World.frozen?, h]
theorem RowOf.focus {α : Type} {P : World → (Nat → Prop) → List Value → α → Prop} (hP : ∀ w w' G cells x, P w G cells x → (∀ b, G b → w'.heap[b]? = w.heap[b]?) → P w' G cells x) {w : World} {F : Nat → Prop} {sz : Nat} {A : Option Addr} {xs : List α} (row : RowOf P w F sz A xs) {i : Nat} (hi : i < xs.length) :
  ∃ b off G cells, A = some ⟨b, off, none⟩ ∧ cells.length = sz ∧ (∀ r u, cells[r]? = some u → w.cell? ⟨b, off + i * sz + r, none⟩ = some u) ∧ P w G cells xs[i] ∧ F b ∧ (∃ cur e, w.heap[b]? = some (.cells cur e (0, 0))) ∧ (∀ x, G x → F x ∧ x ≠ b) ∧
   (∀ (w' : World) (cells' : List Value) (x' : α), cells'.length = sz → (∃ cur e, w'.heap[b]? = some (.cells cur e (0, 0))) → (∀ r u, cells'[r]? = some u → w'.cell? ⟨b, off + i * sz + r, none⟩ = some u) → (∀ o, o < off + i * sz ∨ off + i * sz + sz ≤ o → w'.cell? ⟨b, o, none⟩ = w.cell? ⟨b, o, none⟩) → (∀ y, F y → y ≠ b → ¬ G y → w'.heap[y]? = w.heap[y]?) → P w' G cells' x' → RowOf P w' F sz A (xs.set i x')) := by
 obtain ⟨cs, G, ⟨rd, hown, hsub, hap⟩, hx⟩ := row
 obtain ⟨b, off, cur, e, rfl, hF, hblk, hG⟩ := hown (by omega)
 obtain ⟨b', off', eA, hc⟩ := rd.2 (by omega)
 injection eA with eA
 injection eA with e1 e2
 subst e1 e2
 have hle : i * sz + sz ≤ xs.length * sz := by rw [← Nat.succ_mul]; exact Nat.mul_le_mul_right _ hi
 refine ⟨b, off, G i, (cs.drop (i * sz)).take sz, rfl, by rw [List.length_take, List.length_drop, rd.1]; omega, fun r u hu => ?_, hx i hi, hF, ⟨cur, e, hblk⟩, fun x hg => ⟨hsub i x hi hg, fun e => hG i hi (e ▸ hg)⟩, fun w' cells' x' hcl hpl hcc hout hk hp => ?_⟩
 ·rw [List.getElem?_take] at hu
  split at hu
  ·rw [List.getElem?_drop] at hu
   rw [Nat.add_assoc]
   exact hc _ _ hu
  ·cases hu
 ·obtain ⟨cur', e', hblk'⟩ := hpl
  have hget : ∀ j, (cs.take (i * sz) ++ cells' ++ cs.drop (i * sz + sz))[j]? = if j < i * sz then cs[j]? else if j < i * sz + sz then cells'[j - i * sz]? else cs[j]? := by
   intro j
   have l1 : (cs.take (i * sz)).length = i * sz := by rw [List.length_take, rd.1]; omega
   by_cases h1 : j < i * sz
   ·rw [if_pos h1, List.append_assoc, List.getElem?_append_left (by omega), List.getElem?_take, if_pos h1]
   ·rw [if_neg h1]
    by_cases h2 : j < i * sz + sz
    ·rw [if_pos h2, List.getElem?_append_left (by rw [List.length_append, l1, hcl]; omega), List.getElem?_append_right (by omega), l1]
    ·rw [if_neg h2, List.getElem?_append_right (by rw [List.length_append, l1, hcl]; omega), List.getElem?_drop, List.length_append, l1, hcl]
     congr 1; omega
  have hchunk : ∀ k, k < xs.length → ((cs.take (i * sz) ++ cells' ++ cs.drop (i * sz + sz)).drop (k * sz)).take sz = if k = i then cells' else (cs.drop (k * sz)).take sz := by
   intro k hk'
   apply List.ext_getElem?
   intro j
   rw [List.getElem?_take]
   by_cases hj : j < sz
   ·rw [if_pos hj, List.getElem?_drop, hget]
    by_cases ek : k = i
    ·subst ek
     rw [if_pos rfl, if_neg (by omega), if_pos (by omega)]
     congr 1; omega
    ·rw [if_neg ek, List.getElem?_take, if_pos hj, List.getElem?_drop]
     rcases Nat.lt_or_gt_of_ne ek with h | h
     ·have : (k + 1) * sz ≤ i * sz := Nat.mul_le_mul_right _ h
      rw [Nat.succ_mul] at this
      rw [if_pos (by omega)]
     ·have : (i + 1) * sz ≤ k * sz := Nat.mul_le_mul_right _ h
      rw [Nat.succ_mul] at this
      rw [if_neg (by omega), if_neg (by omega)]
   ·rw [if_neg hj]
    by_cases ek : k = i
    ·rw [if_pos ek, List.getElem?_eq_none (by omega)]
    ·rw [if_neg ek, List.getElem?_take, if_neg hj]
  refine ⟨cs.take (i * sz) ++ cells' ++ cs.drop (i * sz + sz), G, ⟨⟨?_, fun hn => ⟨b, off, rfl, fun j u hu => ?_⟩⟩, fun hn => ⟨b, off, cur', e', rfl, hF, hblk', fun k hk' => hG k (by simpa using hk')⟩, fun k y hk' => hsub k y (by simpa using hk'), fun k l y h1 h2 => hap k l y (by simpa using h1) (by simpa using h2)⟩, fun k hk' => ?_⟩
  ·rw [List.length_set, List.length_append, List.length_append, List.length_take, List.length_drop, hcl, rd.1]; omega
  ·rw [hget] at hu
   split at hu
   ·rw [hout _ (.inl (by omega))]; exact hc j u hu
   ·split at hu
    ·have := hcc (j - i * sz) u hu
     rwa [show off + i * sz + (j - i * sz) = off + j from by omega] at this
    ·rw [hout _ (.inr (by omega))]; exact hc j u hu
  ·rw [List.length_set] at hk'
   rw [hchunk k hk']
   by_cases ek : i = k
   ·subst ek
    rw [List.getElem_set_self, if_pos rfl]
    exact hp
   ·rw [List.getElem_set_ne ek, if_neg (fun e => ek e.symm)]
    exact hP _ _ _ _ _ (hx k hk') fun y hy => hk y (hsub k y hk' hy) (fun e => hG k hk' (e ▸ hy)) fun hy' => hap k i y hk' hi (fun e => ek e.symm) hy hy'
theorem flat_take {sz : Nat} : ∀ (cs : List (List Value)) (i : Nat) (h : i < cs.length), (∀ c ∈ cs, c.length = sz) → (cs.flatten.drop (i * sz)).take sz = cs[i]
 | [], i, h, _ => by simp at h
 | c :: r, 0, h, hc => by
  have h1 := hc c (by simp)
  simp only [List.flatten_cons, Nat.zero_mul, List.drop_zero, List.getElem_cons_zero]
  rw [← h1, List.take_left]
 | c :: r, i + 1, h, hc => by
  have h1 := hc c (by simp)
  have ih := flat_take r i (by simpa using h) (fun d hd => hc d (by simp [hd]))
  have e : (i + 1) * sz = c.length + i * sz := by rw [h1, Nat.add_mul, Nat.one_mul, Nat.add_comm]
  simp only [List.flatten_cons, List.getElem_cons_succ]
  rw [e, List.drop_append, List.drop_of_length_le (by omega), Nat.add_sub_cancel_left, List.nil_append]
  exact ih
theorem flat_cell {sz : Nat} (cs : List (List Value)) (i j : Nat) (h : i < cs.length) (hc : ∀ c ∈ cs, c.length = sz) (hj : j < sz) (hj' : j < cs[i].length) : cs.flatten[i * sz + j]? = some cs[i][j] := by
 have h1 := flat_take cs i h hc
 have h2 : ((cs.flatten.drop (i * sz)).take sz)[j]? = some cs[i][j] := by rw [h1]; exact List.getElem?_eq_getElem hj'
 rw [List.getElem?_take_of_lt hj, List.getElem?_drop] at h2
 exact h2
theorem flat_setG {sz : Nat} (u : Value) {j : Nat} (hj : j < sz) : ∀ (cs : List (List Value)) (i : Nat) (h : i < cs.length), (∀ c ∈ cs, c.length = sz) → cs.flatten.set (i * sz + j) u = (cs.set i (cs[i].set j u)).flatten
 | [], i, h, _ => by simp at h
 | c :: r, 0, h, hc => by
  have h1 := hc c (by simp)
  simp only [List.flatten_cons, Nat.zero_mul, Nat.zero_add, List.getElem_cons_zero, List.set_cons_zero]
  rw [List.set_append_left _ _ (by omega)]
 | c :: r, i + 1, h, hc => by
  have h1 := hc c (by simp)
  have ih := flat_setG u hj r i (by simpa using h) (fun d hd => hc d (by simp [hd]))
  have e : (i + 1) * sz + j = c.length + (i * sz + j) := by rw [h1, Nat.add_mul, Nat.one_mul]; omega
  simp only [List.flatten_cons, List.getElem_cons_succ, List.set_cons_succ]
  rw [e, List.set_append_right _ _ (by omega), Nat.add_sub_cancel_left, ih]
abbrev KeepsP {α : Type} (P : World → (Nat → Prop) → List Value → α → Prop) : Prop := ∀ w w' G cells x, P w G cells x → (∀ b, G b → w'.heap[b]? = w.heap[b]?) → P w' G cells x
section
variable {α : Type} {P : World → (Nat → Prop) → List Value → α → Prop} {e : TypeId} {sz base : Nat} {Z Z' : Nat → Prop} {w w' w0 w1 w2 : World} {v v' : Value} {l : List α} {cs : List (List Value)} {G : Nat → Nat → Prop}
structure GrwAt (P : World → (Nat → Prop) → List Value → α → Prop) (e : TypeId) (sz base : Nat) (Z : Nat → Prop) (w : World) (v : Value) (l : List α) (cs : List (List Value)) (G : Nat → Nat → Prop) : Prop where
 len : cs.length = l.length
 size : ∀ c ∈ cs, c.length = sz
 ow : OwnX base w e sz v l.length cs.flatten
 clear : ∀ b, v.ownBlock = some b → ¬ Z b
 mem : ∀ i b, i < l.length → G i b → base ≤ b ∧ b < w.heap.size ∧ v.ownBlock ≠ some b ∧ ¬ Z b
 apart : ∀ i j b, i < l.length → j < l.length → i ≠ j → G i b → G j b → False
 is : ∀ i (h : i < l.length) (h' : i < cs.length), P w (G i) cs[i] l[i]
def GrwX (P : World → (Nat → Prop) → List Value → α → Prop) (e : TypeId) (sz base : Nat) (Z : Nat → Prop) (w : World) (v : Value) (l : List α) : Prop := ∃ cs G, GrwAt P e sz base Z w v l cs G
theorem GrwAt.slice (h : GrwAt P e sz base Z w v l cs G) : ∃ A c, v = .slice A l.length c ∧ l.length ≤ c ∧ c ≤ maxLen := by
 obtain ⟨A, c, rfl, hc⟩ := own_slice h.ow.1
 exact ⟨A, c, rfl, hc, own_cap' h.ow.own⟩
theorem GrwX.slice (h : GrwX P e sz base Z w v l) : ∃ A c, v = .slice A l.length c ∧ l.length ≤ c ∧ c ≤ maxLen := by
 obtain ⟨cs, G, h⟩ := h
 exact h.slice
theorem GrwX.nil (hb : base ≤ w.heap.size) : GrwX P e sz base Z w (.slice none 0 0) [] :=
 ⟨[], fun _ _ => False, rfl, fun c h => absurd h (by simp), ⟨World.ownsRow_nil _ _ _ _, hb⟩, fun b h => (by cases h), fun i b h => absurd h (by simp), fun i j b h => absurd h (by simp), fun i h => absurd h (by simp)⟩
theorem GrwX.empty (hb : base ≤ w.heap.size) (hZ : ¬ Z w.heap.size) : GrwX P e sz base Z (w.alloc (.cells #[] e)) (.slice (some ⟨w.heap.size, 0, none⟩) 0 0) [] :=
 ⟨[], fun _ _ => False, rfl, fun c h => absurd h (by simp), ⟨World.ownsRow_lit w #[] 0 hb (by simp [maxLen]) (by simp), by simp; omega⟩, fun b h => (by injection h with h; rw [← h]; exact hZ), fun i b h => absurd h (by simp), fun i j b h => absurd h (by simp), fun i h => absurd h (by simp)⟩
theorem GrwAt.keep (hP : KeepsP P) {S : Nat → Prop} (h : GrwAt P e sz base Z w v l cs G) (hk : Keep S w w') (hS : ∀ b, base ≤ b → b < w.heap.size → ¬ Z b → S b) : GrwAt P e sz base Z w' v l cs G :=
 ⟨h.len, h.size, h.ow.keep hk (fun b hb => hS b (h.ow.lt b hb).1 (h.ow.lt b hb).2 (h.clear b hb)), h.clear, fun i b hi hb => by
  have := h.mem i b hi hb
  exact ⟨this.1, Nat.lt_of_lt_of_le this.2.1 hk.size, this.2.2⟩, h.apart, fun i hi hi' => hP _ _ _ _ _ (h.is i hi hi') fun b hb => by
  have := h.mem i b hi hb
  exact hk.block b this.2.1 (hS b this.1 this.2.1 this.2.2.2)⟩
theorem GrwX.keep (hP : KeepsP P) {S : Nat → Prop} (h : GrwX P e sz base Z w v l) (hk : Keep S w w') (hS : ∀ b, base ≤ b → b < w.heap.size → ¬ Z b → S b) : GrwX P e sz base Z w' v l := by
 obtain ⟨cs, G, h⟩ := h
 exact ⟨cs, G, h.keep hP hk hS⟩
theorem GrwX.below (hP : KeepsP P) (h : GrwX P e sz base Z w v l) (hb : Below w.heap.size w w') : GrwX P e sz base Z w' v l := h.keep hP (Keep.of_below (S := fun _ => True) hb) (fun _ _ _ _ => trivial)
theorem GrwX.zsub (h : GrwX P e sz base Z w v l) (hZ : ∀ b, base ≤ b → b < w.heap.size → Z' b → Z b) : GrwX P e sz base Z' w v l := by
 obtain ⟨cs, G, h⟩ := h
 exact ⟨cs, G, h.len, h.size, h.ow, fun b hb hz => h.clear b hb (hZ b (h.ow.lt b hb).1 (h.ow.lt b hb).2 hz), fun i b hi hb => by
  have := h.mem i b hi hb
  exact ⟨this.1, this.2.1, this.2.2.1, fun hz => this.2.2.2 (hZ b this.1 this.2.1 hz)⟩, h.apart, h.is⟩
theorem grwx_app (hP : KeepsP P) {S H : Nat → Prop} {x : List Value} {g : α} (h : GrwAt P e sz base Z w0 v l cs G) (hk : Keep S w0 w1) (hS : ∀ b, base ≤ b → b < w0.heap.size → ¬ Z b → S b)
  (hx : x.length = sz) (ht : P w1 H x g) (hH : ∀ b, H b → w0.heap.size ≤ b ∧ b < w1.heap.size ∧ ¬ Z b) (hZ : ∀ b, w1.heap.size ≤ b → ¬ Z b)
  (own3 : Own (cutX base w1) w2 e sz v' (l.length + 1) (cs.flatten ++ x)) (gr : Grew v v' w1 w2) : GrwX P e sz base Z w2 v' (l ++ [g]) := by
 have h01 := hk.size
 have h12 := gr.keep.size
 have hb0 := h.ow.2
 have hlt := h.ow.lt
 have key : ∀ b, b < w1.heap.size → v.ownBlock ≠ some b → v'.ownBlock ≠ some b := by
  intro b hb hv e
  rcases gr.lies with h1 | ⟨q, h1, h2⟩
  ·exact hv (h1 ▸ e)
  ·rw [h1] at e; injection e with e; omega
 have hn : ∀ b, w0.heap.size ≤ b → v.ownBlock ≠ some b := fun b hb e => by have := hlt b e; omega
 have hlen : (l ++ [g]).length = l.length + 1 := by simp
 refine ⟨cs ++ [x], fun i b => if i < l.length then G i b else H b, by simp [h.len], fun c hc => ?_, ?_, fun b hb hz => ?_, fun i b hi hb => ?_, fun i j b hi hj hne h1 h2 => ?_, fun i hi hi' => ?_⟩
 ·rcases List.mem_append.1 hc with h1 | h1
  ·exact h.size c h1
  ·rw [List.mem_singleton.1 h1]; exact hx
 ·rw [hlen, List.flatten_append]
  have e1 : [x].flatten = x := by simp
  rw [e1]
  exact OwnX.of (by omega) own3
 ·rcases gr.lies with h1 | ⟨q, h1, h2⟩
  ·exact h.clear b (h1 ▸ hb) hz
  ·rw [h1] at hb; injection hb with hb; exact hZ b (by omega) hz
 ·by_cases e : i < l.length
  ·simp only [e, if_true] at hb
   have := h.mem i b e hb
   exact ⟨this.1, by omega, key b (by omega) this.2.2.1, this.2.2.2⟩
  ·simp only [e, if_false] at hb
   have h1 := hH b hb
   exact ⟨by omega, by omega, key b h1.2.1 (hn b h1.1), h1.2.2⟩
 ·rw [hlen] at hi hj
  by_cases e : i < l.length
  ·by_cases e' : j < l.length
   ·simp only [e, e', if_true] at h1 h2; exact h.apart i j b e e' hne h1 h2
   ·simp only [e, e', if_true, if_false] at h1 h2; have := h.mem i b e h1; have := hH b h2; omega
  ·by_cases e' : j < l.length
   ·simp only [e, e', if_true, if_false] at h1 h2; have := h.mem j b e' h2; have := hH b h1; omega
   ·omega
 ·rw [hlen] at hi
  have hl := h.len
  by_cases e : i < l.length
  ·have e2 : i < cs.length := by omega
   simp only [e, if_true]
   rw [List.getElem_append_left e2, List.getElem_append_left e]
   have hb := fun b hb => h.mem i b e hb
   exact hP _ _ _ _ _ (hP _ _ _ _ _ (h.is i e e2) fun b q => hk.block b (hb b q).2.1 (hS b (hb b q).1 (hb b q).2.1 (hb b q).2.2.2)) fun b q => gr.keep.block b (by have := (hb b q).2.1; omega) (hb b q).2.2.1
  ·have e2 : i = l.length := by omega
   subst e2
   simp only [Nat.lt_irrefl, if_false]
   have e3 : (cs ++ [x])[l.length] = x := by simp [← hl]
   have e4 : (l ++ [g])[l.length] = g := by simp
   rw [e3, e4]
   exact hP _ _ _ _ _ ht fun b q => gr.keep.block b (hH b q).2.1 (hn b (hH b q).1)
theorem GrwAt.set (hP : KeepsP P) {b c k j : Nat} {u : Value} {g : α} (h : GrwAt P e sz base Z w (.slice (some ⟨b, 0, none⟩) l.length c) l cs G) (hk : k < l.length) (hk' : k < cs.length) (hj : j < sz) (hq : ∀ w', P w' (G k) cs[k] l[k] → P w' (G k) (cs[k].set j u) g) :
  GrwX P e sz base Z (w.setCell ⟨b, k * sz + j, none⟩ u) (.slice (some ⟨b, 0, none⟩) l.length c) (l.set k g) := by
 have hl := h.len
 have ho : ∀ b', (Value.slice (some ⟨b, 0, none⟩) l.length c).ownBlock ≠ some b' → b' ≠ b := fun b' h e => h (by rw [e]; rfl)
 have hkp : ∀ i (hi : i < l.length) (hi' : i < cs.length), P (w.setCell ⟨b, k * sz + j, none⟩ u) (G i) cs[i] l[i] := fun i hi hi' => hP _ _ _ _ _ (h.is i hi hi') fun b' hb' => Below.heap_setCell w ⟨b, k * sz + j, none⟩ u b' (ho b' (h.mem i b' hi hb').2.2.1)
 refine ⟨cs.set k (cs[k].set j u), G, by simp [hl], fun x hx => ?_, ?_, h.clear, fun i b' hi hb' => ?_, fun i i' b' hi hi' => h.apart i i' b' (by simpa using hi) (by simpa using hi'), fun i hi hi' => ?_⟩
 ·rcases List.mem_or_eq_of_mem_set hx with h1 | h1
  ·exact h.size x h1
  ·rw [h1, List.length_set]; exact h.size _ (List.getElem_mem hk')
 ·rw [← flat_setG u hj cs k hk' h.size, List.length_set]
  have := h.ow.own.set (k * sz + j) u
  exact OwnX.of h.ow.2 this
 ·have := h.mem i b' (by simpa using hi) hb'
  exact ⟨this.1, by simpa using this.2.1, this.2.2⟩
 ·by_cases e : i = k
  ·subst e
   rw [List.getElem_set_self, List.getElem_set_self]
   exact hq _ (hkp i hk hk')
  ·rw [List.getElem_set_ne (Ne.symm e), List.getElem_set_ne (Ne.symm e)]
   exact hkp i (by simpa using hi) (by simpa using hi')
theorem GrwAt.cell {b c k j : Nat} (h : GrwAt P e sz base Z w (.slice (some ⟨b, 0, none⟩) l.length c) l cs G) (hk : k < cs.length) (hj : j < sz) (hj' : j < cs[k].length) : w.cell? ⟨b, k * sz + j, none⟩ = some cs[k][j] := by
 refine h.ow.own.cellAt ?_ (flat_cell cs k j hk h.size hj hj')
 have h1 : (k + 1) * sz ≤ l.length * sz := Nat.mul_le_mul_right sz (by have := h.len; omega)
 rw [Nat.add_mul, Nat.one_mul] at h1
 omega
theorem GrwAt.free {b c : Nat} (h : GrwAt P e sz base Z w (.slice (some ⟨b, 0, none⟩) l.length c) l cs G) (j : Nat) : w.frozen? ⟨b, j, none⟩ = false := h.ow.own.freeAt j
theorem GrwX.row {A : Option Addr} {c : Nat} (h : GrwX P e sz base Z w (.slice A l.length c) l) : RowOf P w (fun b => base ≤ b ∧ b < w.heap.size ∧ ¬ Z b) sz A l := by
 obtain ⟨cs, G, h⟩ := h
 have hl := h.len
 refine ⟨cs.flatten, G, ⟨h.ow.own.rd, fun hn => ?_, fun i b hi hb => ⟨(h.mem i b hi hb).1, (h.mem i b hi hb).2.1, (h.mem i b hi hb).2.2.2⟩, h.apart⟩, fun i hi => ?_⟩
 ·have hcl := h.clear
  have hm := h.mem
  rcases h.ow.1.2 with ⟨h1, _⟩ | ⟨g, cap, cur, h1, hb, hg, _⟩
  ·injection h1 with _ h2; omega
  ·injection h1 with h1 h2
   subst h1
   exact ⟨g, 0, cur, _, rfl, ⟨hb, lt_of_block hg, hcl g rfl⟩, hg, fun i hi hb => (hm i g hi hb).2.2.1 rfl⟩
 ·rw [flat_take cs i (by omega) h.size]
  exact h.is i hi (by omega)
end
def IsStrs (w : World) (v : Value) (ss : List ByteArray) : Prop := ∃ A c, v = .slice A ss.length c ∧ ss.length ≤ c ∧ c ≤ maxLen ∧ Rd w 1 A ss.length (ss.map Value.string)
theorem IsStrs.below {w w' : World} {v : Value} {ss : List ByteArray} (h : IsStrs w v ss) (hb : Below w.heap.size w w') : IsStrs w' v ss := by
 obtain ⟨A, c, e, h1, h2, h3⟩ := h
 exact ⟨A, c, e, h1, h2, h3.below hb⟩
theorem rd_str {w : World} {A : Option Addr} {ss : List ByteArray} (rd : Rd w 1 A ss.length (ss.map Value.string)) {k : Nat} (hk : k < ss.length) : ∃ b off, A = some ⟨b, off, none⟩ ∧ w.cell? ⟨b, off + k, none⟩ = some (.string ss[k]) := by
 obtain ⟨b, off, e, hc⟩ := rd.2 (by omega)
 exact ⟨b, off, e, hc k _ (by simp [hk])⟩
def totS (ss : List ByteArray) : Nat := ss.length + (ss.map ByteArray.size).sum
def cut0 (n : Int) : Int := if n < 0 then -1 else n
theorem cut0_neg {n : Int} (h : n < 0) : cut0 n = -1 := by simp [cut0, h]
theorem cut0_pos {n : Int} (h : 0 ≤ n) : cut0 n = n := by simp [cut0]; omega
theorem strT : ElemT Tryz.prog 24 9 1 16 := ElemT.mk' (z := .string ByteArray.empty) Tryz.underlying24 (by kernel_rfl) rfl (by decide)
def placeS (ss : List ByteArray) (x : ByteArray) : Int := match ss.findIdx? (fun s => decide (s = x)) with | some k => (k : Int) | none => -1
theorem placeS_at {ss : List ByteArray} {x : ByteArray} {k : Nat} (h : ∀ s ∈ ss.take k, s ≠ x) (hk : k < ss.length) (e : ss[k] = x) : placeS ss x = (k : Int) := by
 have : ss.findIdx? (fun s => decide (s = x)) = some k := by
  rw [List.findIdx?_eq_some_iff_getElem]
  refine ⟨hk, by simpa using e, fun j hj => ?_⟩
  have := h ss[j] (List.mem_take_iff_getElem.2 ⟨j, by omega, rfl⟩)
  simpa using this
 unfold placeS; rw [this]
theorem placeS_no {ss : List ByteArray} {x : ByteArray} (h : ∀ s ∈ ss, s ≠ x) : placeS ss x = -1 := by
 have : ss.findIdx? (fun s => decide (s = x)) = none := by
  rw [List.findIdx?_eq_none_iff]
  intro s hs
  simpa using h s hs
 unfold placeS; rw [this]
theorem take_all_succ {ss : List ByteArray} {x : ByteArray} {k : Nat} (h : ∀ s ∈ ss.take k, s ≠ x) (hk : k < ss.length) (e : ss[k] ≠ x) : ∀ s ∈ ss.take (k + 1), s ≠ x := by
 have e1 : ss.take (k + 1) = ss.take k ++ [ss[k]] := List.take_succ_eq_append_getElem hk
 rw [e1]
 intro s hs
 rcases List.mem_append.1 hs with h1 | h1
 ·exact h s h1
 ·rw [List.mem_singleton.1 h1]; exact e
theorem spec_PlaceOf (v : Value) (ss : List ByteArray) (x : ByteArray) (w : World) (h : IsStrs w v ss) :
  Calls Tryz.prog 55 #[v, .string x] w fun e w' => e = .returned (.int .i64 (placeS ss x)) ∧ w = w' := by
 obtain ⟨A, c, rfl, h2, h3, rd⟩ := h
 unfold maxLen at h3
 have RD := qh rd
 clear rd
 go_enter Tryz.func55, Tryz.ntmps55
 go_wp2_with fail
 go_loop [5] (fun i => ∃ k : Nat, k ≤ ss.length ∧ i = .int .i64 k ∧ Hid (∀ s ∈ ss.take k, s ≠ x)) (fun i => ss.length - (intOf i).toNat)
 case atStart => exact ⟨0, Nat.zero_le _, rfl, qh (by simp)⟩
 case round =>
  obtain ⟨k, hk, rfl, HT⟩ := hrel
  by_cases hlt : k < ss.length
  ·obtain ⟨b, off, rfl, hcell⟩ := rd_str RD.out hlt
   have h0k : (0 : Int) ≤ (k : Int) := by omega
   have q := str_eq ss[k] x
   by_cases e : ss[k] = x
   ·have HE := qh e
    rw [decide_eq_true e] at q
    clear e
    go_wp2_with fail
    go_ret
    exact ⟨ret_int (placeS_at HT.out hlt HE.out).symm, rfl⟩
   ·have HE := qh e
    rw [decide_no e] at q
    clear e
    go_wp2_with fail
    go_round
    case rel => exact ⟨k + 1, by omega, by go_num, qh (take_all_succ HT.out hlt HE.out)⟩
    case measure => simp [intOf]; omega
  ·go_wp2_with fail
   go_ret
   refine ⟨ret_int (placeS_no ?_).symm, rfl⟩
   have := HT.out
   rwa [List.take_of_length_le (by omega)] at this
theorem slices_Index (v : Value) (ss : List ByteArray) (x : ByteArray) (w : World) (h : IsStrs w v ss) :
  Calls Tryz.prog 79 #[v, .string x] w fun e w' => e = .returned (.int .i64 (placeS ss x)) ∧ w = w' := by
 obtain ⟨A, c, rfl, h2, h3, rd⟩ := h
 unfold maxLen at h3
 have RD := qh rd
 clear rd
 go_enter Tryz.func79, Tryz.ntmps79
 go_wp2_with fail
 go_loop [8] (fun i => ∃ k : Nat, k ≤ ss.length ∧ i = .int .i64 k ∧ Hid (∀ s ∈ ss.take k, s ≠ x)) (fun i => ss.length - (intOf i).toNat)
 case atStart => exact ⟨0, Nat.zero_le _, rfl, qh (by simp)⟩
 case round =>
  obtain ⟨k, hk, rfl, HT⟩ := hrel
  by_cases hlt : k < ss.length
  ·obtain ⟨b, off, rfl, hcell⟩ := rd_str RD.out hlt
   have h0k : (0 : Int) ≤ (k : Int) := by omega
   have q := str_eq x ss[k]
   by_cases e : x = ss[k]
   ·have HE := qh e
    rw [decide_eq_true e] at q
    clear e
    go_wp2_with fail
    go_ret
    exact ⟨ret_int (placeS_at HT.out hlt HE.out.symm).symm, rfl⟩
   ·have HE := qh e
    rw [decide_no e] at q
    clear e
    go_wp2_with fail
    go_round
    case rel => exact ⟨k + 1, by omega, by go_num, qh (take_all_succ HT.out hlt (fun h => HE.out h.symm))⟩
    case measure => simp [intOf]; omega
  ·go_wp2_with fail
   go_ret
   refine ⟨ret_int (placeS_no ?_).symm, rfl⟩
   have := HT.out
   rwa [List.take_of_length_le (by omega)] at this
theorem impl_PlaceOf (v : Value) (ss : List ByteArray) (x : ByteArray) (w : World) (h : IsStrs w v ss) :
  Calls Tryz.prog 48 #[v, .string x] w fun e w' => e = .returned (.int .i64 (placeS ss x)) ∧ w = w' := by
 go_enter Tryz.func48, Tryz.ntmps48
 go_wp2_with (go_at_call 79; refine (slices_Index _ ss _ _ h).mono ?_; rintro e w' ⟨rfl, rfl⟩)
 go_ret
 exact ⟨rfl, rfl⟩
inductive Tm where
 | mk (kind num : Int) (name : ByteArray) (kids : List Tm)
def Tm.kind : Tm → Int | .mk k _ _ _ => k
def Tm.num : Tm → Int | .mk _ n _ _ => n
def Tm.name : Tm → ByteArray | .mk _ _ s _ => s
def Tm.kids : Tm → List Tm | .mk _ _ _ l => l
mutual
def nodes : Tm → Nat | .mk _ _ _ kids => 1 + nodess kids
def nodess : List Tm → Nat | [] => 0 | t :: r => nodes t + nodess r
end
theorem nodess_le {l : List Tm} {x : Tm} (h : x ∈ l) : nodes x ≤ nodess l := by
 induction l with
 | nil => cases h
 | cons y r ih =>
  rw [nodess]
  rcases List.mem_cons.1 h with rfl | h
  ·omega
  ·have := ih h; omega
theorem kid_lt {k n : Int} {s : ByteArray} {kids : List Tm} {x : Tm} (h : x ∈ kids) : nodes x < nodes (Tm.mk k n s kids) := by
 have := nodess_le h
 rw [nodes]
 omega
mutual
def totT : Tm → Nat | .mk _ _ s kids => s.size + totTs kids
def totTs : List Tm → Nat | [] => 0 | t :: r => 1 + totT t + totTs r
end
theorem totTs_le {l : List Tm} {x : Tm} (h : x ∈ l) : totT x ≤ totTs l := by
 induction l with
 | nil => cases h
 | cons y r ih =>
  rw [totTs]
  rcases List.mem_cons.1 h with rfl | h
  ·omega
  ·have := ih h; omega
theorem totTs_len (l : List Tm) : l.length ≤ totTs l := by
 induction l with
 | nil => simp
 | cons y r ih => rw [totTs, List.length_cons]; omega
def i64in (n : Int) : Prop := -9223372036854775808 ≤ n ∧ n ≤ 9223372036854775807
inductive TmIs (F : Nat → Prop) (w : World) : List Value → Tm → Prop
 | mk (k n : Int) (s : ByteArray) (A : Option Addr) (c : Nat) (cs : List Value) (kids : List Tm) (hk : i64in k) (hn : i64in n) (hs : s.size ≤ maxLen) (hl : kids.length ≤ c) (hc : c ≤ maxLen) (rd : Rd w 4 A kids.length cs)
   (hF : ∀ b off, A = some ⟨b, off, none⟩ → 0 < kids.length → F b) (hx : ∀ i (h : i < kids.length), TmIs F w ((cs.drop (i * 4)).take 4) kids[i]) : TmIs F w [.int .i64 k, .int .i64 n, .string s, .slice A kids.length c] (.mk k n s kids)
def TmRow (F : Nat → Prop) (w : World) (A : Option Addr) (ts : List Tm) : Prop :=
 ∃ cs, Rd w 4 A ts.length cs ∧ (∀ b off, A = some ⟨b, off, none⟩ → 0 < ts.length → F b) ∧ ∀ i (h : i < ts.length), TmIs F w ((cs.drop (i * 4)).take 4) ts[i]
theorem TmIs.inv {F : Nat → Prop} {w : World} {k n : Int} {s : ByteArray} {A : Option Addr} {m c : Nat} {t : Tm} (h : TmIs F w [.int .i64 k, .int .i64 n, .string s, .slice A m c] t) :
  ∃ kids, t = .mk k n s kids ∧ m = kids.length ∧ kids.length ≤ c ∧ c ≤ maxLen ∧ i64in k ∧ i64in n ∧ s.size ≤ maxLen ∧ TmRow F w A kids := by
 cases h with
 | mk _ _ _ _ _ cs kids hk hn hs hl hc rd hF hx => exact ⟨kids, rfl, rfl, hl, hc, hk, hn, hs, cs, rd, hF, hx⟩
theorem TmIs.mk' {F : Nat → Prop} {w : World} {k n : Int} {s : ByteArray} {A : Option Addr} {c : Nat} {kids : List Tm} (hk : i64in k) (hn : i64in n) (hs : s.size ≤ maxLen) (hl : kids.length ≤ c) (hc : c ≤ maxLen) (row : TmRow F w A kids) :
  TmIs F w [.int .i64 k, .int .i64 n, .string s, .slice A kids.length c] (.mk k n s kids) := by
 obtain ⟨cs, rd, hF, hx⟩ := row
 exact .mk k n s A c cs kids hk hn hs hl hc rd hF hx
theorem TmIs.form {F : Nat → Prop} {w : World} {cs : List Value} {t : Tm} (h : TmIs F w cs t) : ∃ k n s A m c, cs = [.int .i64 k, .int .i64 n, .string s, .slice A m c] := by
 cases h with
 | mk k n s A c cs kids hk hn hs hl hc rd hF hx => exact ⟨k, n, s, A, _, c, rfl⟩
theorem TmIs.keep {F F' : Nat → Prop} {w w' : World} {cs : List Value} {t : Tm} (h : TmIs F w cs t) (hk : ∀ p : Addr, p.block < w.heap.size → F p.block → w'.cell? p = w.cell? p) (hF : ∀ b, b < w.heap.size → F b → F' b) : TmIs F' w' cs t := by
 induction h with
 | mk k n s A c cs kids h1 h2 h3 hl hc rd hf hx ih =>
  refine .mk k n s A c cs kids h1 h2 h3 hl hc ⟨rd.1, fun hn => ?_⟩ (fun b off e hn => ?_) ih
  ·obtain ⟨b, off, e, hcell⟩ := rd.2 hn
   exact ⟨b, off, e, fun j u hu => (hk _ (cell_lt (hcell j u hu)) (hf b off e hn)).trans (hcell j u hu)⟩
  ·obtain ⟨b', off', e', hcell⟩ := rd.2 hn
   rw [e'] at e
   injection e with e
   injection e with e1 e2
   subst e1 e2
   refine hF _ ?_ (hf _ _ e' hn)
   have h0 : 0 < cs.length := by rw [rd.1]; omega
   exact cell_lt (hcell 0 _ (List.getElem?_eq_getElem h0))
theorem TmRow.keep {F F' : Nat → Prop} {w w' : World} {A : Option Addr} {ts : List Tm} (h : TmRow F w A ts) (hk : ∀ p : Addr, p.block < w.heap.size → F p.block → w'.cell? p = w.cell? p) (hF : ∀ b, b < w.heap.size → F b → F' b) : TmRow F' w' A ts := by
 obtain ⟨cs, rd, hf, hx⟩ := h
 refine ⟨cs, ⟨rd.1, fun hn => ?_⟩, fun b off e hn => ?_, fun i hi => (hx i hi).keep hk hF⟩
 ·obtain ⟨b, off, e, hcell⟩ := rd.2 hn
  exact ⟨b, off, e, fun j u hu => (hk _ (cell_lt (hcell j u hu)) (hf b off e hn)).trans (hcell j u hu)⟩
 ·obtain ⟨b', off', e', hcell⟩ := rd.2 hn
  rw [e'] at e
  injection e with e
  injection e with e1 e2
  subst e1 e2
  refine hF _ ?_ (hf _ _ e' hn)
  have h0 : 0 < cs.length := by rw [rd.1]; omega
  exact cell_lt (hcell 0 _ (List.getElem?_eq_getElem h0))
abbrev AnyB : Nat → Prop := fun _ => True
def Fr (lo : Nat) (w : World) : Nat → Prop := fun b => lo ≤ b ∧ ∃ cur e, w.heap[b]? = some (.cells cur e (0, 0))
theorem TmIs.any {F : Nat → Prop} {w : World} {cs : List Value} {t : Tm} (h : TmIs F w cs t) : TmIs AnyB w cs t := h.keep (fun _ _ _ => rfl) (fun _ _ _ => trivial)
theorem TmRow.any {F : Nat → Prop} {w : World} {A : Option Addr} {ts : List Tm} (h : TmRow F w A ts) : TmRow AnyB w A ts := h.keep (fun _ _ _ => rfl) (fun _ _ _ => trivial)
theorem TmIs.belowA {w w' : World} {cs : List Value} {t : Tm} (h : TmIs AnyB w cs t) (hb : Below w.heap.size w w') : TmIs AnyB w' cs t := h.keep (fun _ hp _ => hb.cell hp) (fun _ _ _ => trivial)
theorem TmRow.belowA {w w' : World} {A : Option Addr} {ts : List Tm} (h : TmRow AnyB w A ts) (hb : Below w.heap.size w w') : TmRow AnyB w' A ts := h.keep (fun _ hp _ => hb.cell hp) (fun _ _ _ => trivial)
theorem TmIs.drew {w : World} {cs : List Value} {t : Tm} (h : TmIs AnyB w cs t) : TmIs AnyB w.drew cs t := h.belowA (Below.refl _ _).drew
theorem TmRow.drew {w : World} {A : Option Addr} {ts : List Tm} (h : TmRow AnyB w A ts) : TmRow AnyB w.drew A ts := h.belowA (Below.refl _ _).drew
theorem Fr.below {lo : Nat} {w w' : World} (hb : Below w.heap.size w w') : ∀ b, b < w.heap.size → Fr lo w b → Fr lo w' b := fun b hlt ⟨h1, cur, e, h2⟩ => ⟨h1, cur, e, (hb.block b hlt).trans h2⟩
theorem TmIs.mono {lo lo' : Nat} {w : World} {cs : List Value} {t : Tm} (h : TmIs (Fr lo w) w cs t) (hl : lo' ≤ lo) : TmIs (Fr lo' w) w cs t := h.keep (fun _ _ _ => rfl) (fun b _ ⟨h1, h2⟩ => ⟨by omega, h2⟩)
theorem rd_term {F : Nat → Prop} {w : World} {A : Option Addr} {ts : List Tm} (row : TmRow F w A ts) {k : Nat} (hk : k < ts.length) :
  ∃ b off kd n s A' m c, A = some ⟨b, off, none⟩ ∧ F b ∧ w.cell? ⟨b, off + k * 4, none⟩ = some (.int .i64 kd) ∧ w.cell? ⟨b, off + k * 4 + 1, none⟩ = some (.int .i64 n) ∧ w.cell? ⟨b, off + k * 4 + 2, none⟩ = some (.string s) ∧ w.cell? ⟨b, off + k * 4 + 3, none⟩ = some (.slice A' m c) ∧
   TmIs F w [.int .i64 kd, .int .i64 n, .string s, .slice A' m c] ts[k] := by
 obtain ⟨cs, rd, hF, hx⟩ := row
 obtain ⟨b, off, e, hc⟩ := rd.2 (by omega)
 have h := hx k hk
 obtain ⟨kd, n, s, A', m, c, e1⟩ := h.form
 rw [e1] at h
 exact ⟨b, off, kd, n, s, A', m, c, e, hF b off e (by omega), hc _ _ ((chunk_get (r := 0) (by omega) e1).trans rfl), hc _ _ ((chunk_get (r := 1) (by omega) e1).trans rfl), hc _ _ ((chunk_get (r := 2) (by omega) e1).trans rfl), hc _ _ ((chunk_get (r := 3) (by omega) e1).trans rfl), h⟩
noncomputable def sameB (a b : Tm) : Bool := @decide (a = b) (Classical.propDecidable _)
theorem sameB_yes {a b : Tm} (h : a = b) : sameB a b = true := by unfold sameB; exact @decide_eq_true _ (Classical.propDecidable _) h
theorem sameB_no {a b : Tm} (h : a ≠ b) : sameB a b = false := by unfold sameB; exact @decide_eq_false _ (Classical.propDecidable _) h
theorem sameB_true {a b : Tm} (h : sameB a b = true) : a = b := Classical.byContradiction fun hn => by rw [sameB_no hn] at h; cases h
theorem sameB_false {a b : Tm} (h : sameB a b = false) : a ≠ b := fun e => by rw [sameB_yes e] at h; cases h
end Go.Proofs.YtnmblfonmfjoeaaGreatDoor
