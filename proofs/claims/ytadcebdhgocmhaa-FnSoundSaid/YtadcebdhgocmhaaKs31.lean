/- Several texts in one: GrewG, GrwSt. -/
import Derived.Test.YtadcebdhgocmhaaKs2
import Derived.OneCell
import Derived.Maps.AppendAt
import Derived.Test.YtadcebdhgocmhaaKs17
namespace Go.Proofs.Ytadcebdhgocmhaa
open Go.RowKit
set_option linter.unusedVariables false


/-- all but v's own row is as it was; v' lies in v's row or in a new block -/
structure Grew (v v' : Value) (w w' : World) : Prop where
  keep : Keep (fun i => v.ownBlock ≠ some i) w w'
  lies : v'.ownBlock = v.ownBlock ∨ ∃ g, v'.ownBlock = some g ∧ w.heap.size ≤ g
theorem Grew.refl (v : Value) (w : World) : Grew v v w w := ⟨Keep.refl _ _, .inl rfl⟩
theorem Grew.of_below {v : Value} {w w' : World} (h : Below w.heap.size w w') : Grew v v w w' := ⟨Keep.of_below h, .inl rfl⟩
theorem Grew.trans {u v x : Value} {a b c : World} (h : Grew u v a b) (k : Grew v x b c) : Grew u x a c := by
  refine ⟨h.keep.trans k.keep (fun i hi hu e => ?_), ?_⟩
  · rcases h.lies with h1 | ⟨g, h1, h2⟩
    · exact hu (h1.symm.trans e)
    · rw [h1] at e; injection e with e; omega
  · rcases k.lies with k1 | ⟨g, k1, k2⟩
    · rw [k1]; exact h.lies
    · exact .inr ⟨g, k1, Nat.le_trans h.keep.size k2⟩
theorem Keep.mono {S S' : Nat → Prop} {w w' : World} (h : Keep S w w') (hs : ∀ i, i < w.heap.size → S' i → S i) : Keep S' w w' := ⟨h.os, h.tape, h.output, h.size, fun k hk hS => h.block k hk (hs k hk hS)⟩
theorem Own.neT {w0 w : World} {e : TypeId} {sz n b : Nat} {v : Value} {xs : List Value} (h : Own w0 w e sz v n xs) (hb : Sane e w b) : v.ownBlock ≠ some b := by
  intro e
  rcases h.1.2 with ⟨rfl, _⟩ | ⟨g, cap, cur, rfl, _, hg, _⟩
  · cases e
  · injection e with e
    subst e
    exact hb cur hg
theorem Grew.keepT {w0 w w' : World} {e : TypeId} {sz n : Nat} {v v' : Value} {xs : List Value} (h : Grew v v' w w') (own : Own w0 w e sz v n xs) : KeepT e w w' := h.keep.mono fun _ _ hS => own.neT hS
section
variable {P : Program} {w0 w : World}
theorem run_appG (t ty e : TypeId) (sz bt : Nat) (T : ElemT P t e sz bt) (v : Value) (n : Nat) (xs : List Value) (own : Own w0 w e sz v n xs)
    (A : Option Addr) (m c : Nat) (news : List Value) (rd : Rd w sz A m news) (h1 : ∀ u ∈ news, u.oneCell' = true) (h63 : n + m ≤ maxLen) (hb : (n + m) * bt ≤ 140737488355328) :
    ∃ v' w', (Builtin.append_ #[t, t] ty #[v, .slice A m c]).run P w = .ok v' w' ∧ Own w0 w' e sz v' (n + m) (xs ++ news) ∧ Grew v v' w w' := by
  obtain ⟨i, z, hi, hz, hs, hbt, hzs⟩ := T.info
  rcases A with _ | ad
  · have hm : m = 0 := by
      rcases Nat.eq_zero_or_pos m with h | h
      · exact h
      · obtain ⟨b, off, e, _⟩ := rd.2 h; cases e
    subst hm
    have hn : news = [] := List.eq_nil_of_length_eq_zero (by simpa using rd.1)
    subst hn
    refine ⟨v, w, ?_, by simpa using own, Grew.refl _ _⟩
    rcases own.1.2 with ⟨rfl, rfl⟩ | ⟨g, cap, cur, rfl, _, _, hnc, _⟩
    · simp [Builtin.append_, run_underlying T.under, sizeOf, typeInfo, hi, Builtin.lenOf, Builtin.firstCells]
    · simp [Builtin.append_, run_underlying T.under, sizeOf, typeInfo, hi, Builtin.lenOf, Builtin.firstCells, hnc, storeCells]
  · have hcells : ∀ j u, news[j]? = some u → w.cell? (ad.add j) = some u := by
      intro j u hu
      rcases Nat.eq_zero_or_pos m with h0 | h0
      · subst h0
        have hn : news = [] := List.eq_nil_of_length_eq_zero (by simpa using rd.1)
        subst hn
        simp at hu
      · obtain ⟨b, off, h, hc⟩ := rd.2 h0
        injection h with h
        subst h
        rw [Addr.add_lit]
        exact hc j u hu
    obtain ⟨v', w', hr, h2, h3, _, h5⟩ := run_append_own_at (P := P) w w0.heap.size t ty e i z sz bt T.under hi hz hs hbt hzs T.pos v n xs own.1 ad m c news rd.1 hcells h1 h63 hb own.2.size
    refine ⟨v', w', hr, own.grown h2 h3, ⟨h3.os, h3.tape, h3.output, h3.size, fun k hk hne => h3.block k hk (fun e => hne e.symm)⟩, ?_⟩
    rcases h5 with h5 | h5
    · exact .inl h5
    · exact .inr ⟨_, h5, Nat.le_refl _⟩
theorem wp_appG {o : Oper} {a : Act} {K : Act → World → Prop} {Q : Exit → Act → World → Prop} (s x : Operand) (t : TypeId)
    (ho : o.op = .call { callee := .builtin .append, args := #[s, x], argTypes := #[t, t] }) {e : TypeId} {sz bt : Nat} (T : ElemT P t e sz bt) {v : Value} {n : Nat} {xs : List Value} (hs : a.eval s = v) (own : Own w0 w e sz v n xs)
    (A : Option Addr) (m c : Nat) (news : List Value) (hx : a.eval x = .slice A m c) (rd : Rd w sz A m news) (h1 : ∀ u ∈ news, u.oneCell' = true) (h63 : n + m ≤ maxLen) (hb : (n + m) * bt ≤ 140737488355328)
    (h : ∀ v' w', Own w0 w' e sz v' (n + m) (xs ++ news) → Grew v v' w w' → K (a.put o.dst v') w') : o.wp P a w K Q := by
  obtain ⟨v', w', hr, h2, h3⟩ := run_appG (P := P) t o.type e sz bt T v n xs own A m c news rd h1 h63 hb
  unfold Oper.wp execOp
  simp only [ho, resolve, invoke, builtin, Sem.run_bind, Sem.run_pure, Result.andThen_ok, List.map_toArray, List.map_cons, List.map_nil, hs, hx, hr]
  exact h v' w' h2 h3
/-- append onto a row of the call's own, in a plain region -/
theorem wpList_appG {ops : Array Oper} {rest : List Oper} {o : Oper} {a : Act} {Q : Exit → Act → World → Prop} (hgd : o.guard = none) (s x : Operand) (t : TypeId)
    (ho : o.op = .call { callee := .builtin .append, args := #[s, x], argTypes := #[t, t] }) {e : TypeId} {sz bt : Nat} (T : ElemT P t e sz bt) {v : Value} {n : Nat} {xs : List Value} (hs : a.eval s = v) (own : Own w0 w e sz v n xs)
    (A : Option Addr) (m c : Nat) (news : List Value) (hx : a.eval x = .slice A m c) (rd : Rd w sz A m news) (h1 : ∀ u ∈ news, u.oneCell' = true) (h63 : n + m ≤ maxLen) (hb : (n + m) * bt ≤ 140737488355328)
    (h : ∀ v' w', Own w0 w' e sz v' (n + m) (xs ++ news) → Grew v v' w w' → wpList P ops Q rest (a.put o.dst v') w') : wpList P ops Q (o :: rest) a w :=
  wpList_plain hgd fun _ hK => wp_appG s x t ho T hs own A m c news hx rd h1 h63 hb fun v' w' h2 h3 => hK _ _ (h v' w' h2 h3)
/-- the same where what is appended has just been laid in a new block -/
theorem wpList_appG_new {ops : Array Oper} {rest : List Oper} {o : Oper} {a : Act} {Q : Exit → Act → World → Prop} (g : Nat) (hg : g = w.heap.size) (hgd : o.guard = none) (s x : Operand) (t : TypeId)
    (ho : o.op = .call { callee := .builtin .append, args := #[s, x], argTypes := #[t, t] }) {e : TypeId} {sz bt : Nat} (T : ElemT P t e sz bt) {v : Value} {n : Nat} {xs : List Value} (own : Own w0 w e sz v n xs)
    (cs : Array Value) (m : Nat) (hs : a.eval s = v) (hx : a.eval x = .slice (some ⟨g, 0, none⟩) m m) (hl : cs.size = m * sz) (h1 : ∀ u ∈ cs.toList, u.oneCell' = true) (h63 : n + m ≤ maxLen) (hb : (n + m) * bt ≤ 140737488355328)
    (h : ∀ v' w', Own w0 w' e sz v' (n + m) (xs ++ cs.toList) → Grew v v' w w' → wpList P ops Q rest (a.put o.dst v') w') : wpList P ops Q (o :: rest) a (w.alloc (.cells cs e)) := by
  subst hg
  exact wpList_appG hgd s x t ho T hs (own.alloc _) _ m m cs.toList hx (Rd.new w sz m cs e hl) h1 h63 hb fun v' w' h2 h3 =>
    h v' w' h2 ((Grew.of_below (Below.alloc (Below.refl _ _) (Nat.le_refl _) _)).trans h3)
end
/-- the world's first blocks -/
def cutX (base : Nat) (w : World) : World := { w with heap := w.heap.extract 0 base }
theorem cutX_size {base : Nat} {w : World} (h : base ≤ w.heap.size) : (cutX base w).heap.size = base := by simp [cutX]; omega
theorem cutX_below {base : Nat} {w : World} (h : base ≤ w.heap.size) : Below (cutX base w).heap.size (cutX base w) w := by
  refine ⟨rfl, rfl, rfl, ?_, fun k hk => ?_⟩
  · rw [cutX_size h]; exact h
  · rw [cutX_size h] at hk
    simp [cutX, Array.getElem?_extract]; omega
/-- v owns the cells xs in blocks from base on -/
def OwnX (base : Nat) (w : World) (e : TypeId) (sz : Nat) (v : Value) (n : Nat) (xs : List Value) : Prop := w.ownsRow base e sz v n xs ∧ base ≤ w.heap.size
theorem OwnX.own {base : Nat} {w : World} {e : TypeId} {sz n : Nat} {v : Value} {xs : List Value} (h : OwnX base w e sz v n xs) : Own (cutX base w) w e sz v n xs := ⟨by rw [cutX_size h.2]; exact h.1, cutX_below h.2⟩
theorem OwnX.of {base : Nat} {w w' : World} {e : TypeId} {sz n : Nat} {v : Value} {xs : List Value} (hb : base ≤ w.heap.size) (h : Own (cutX base w) w' e sz v n xs) : OwnX base w' e sz v n xs := by
  have h1 := h.1
  have h2 := h.2.size
  rw [cutX_size hb] at h1 h2
  exact ⟨h1, h2⟩
theorem OwnX.of_own {w0 w : World} {e : TypeId} {sz n : Nat} {v : Value} {xs : List Value} (h : Own w0 w e sz v n xs) : OwnX w0.heap.size w e sz v n xs := ⟨h.1, h.2.size⟩
theorem OwnX.keep {base : Nat} {w w' : World} {e : TypeId} {sz n : Nat} {v : Value} {xs : List Value} {S : Nat → Prop} (h : OwnX base w e sz v n xs) (hk : Keep S w w') (hv : ∀ b, v.ownBlock = some b → S b) : OwnX base w' e sz v n xs := by
  refine ⟨⟨h.1.1, ?_⟩, Nat.le_trans h.2 hk.size⟩
  rcases h.1.2 with h' | ⟨g, cap, cur, rfl, hg, hh, r⟩
  · exact .inl h'
  · exact .inr ⟨g, cap, cur, rfl, hg, (hk.block g (lt_of_block hh) (hv g rfl)).trans hh, r⟩
theorem OwnX.lt {base : Nat} {w : World} {e : TypeId} {sz n : Nat} {v : Value} {xs : List Value} (h : OwnX base w e sz v n xs) : ∀ b, v.ownBlock = some b → base ≤ b ∧ b < w.heap.size := fun b hb => h.1.lt b hb
theorem OwnX.neT {base : Nat} {w : World} {e : TypeId} {sz n b : Nat} {v : Value} {xs : List Value} (h : OwnX base w e sz v n xs) (hb : Sane e w b) : v.ownBlock ≠ some b := Own.neT h.own hb
/-- a row's block is of its kind -/
theorem OwnX.sane {base : Nat} {w : World} {e t : TypeId} {sz n : Nat} {v : Value} {xs : List Value} (h : OwnX base w e sz v n xs) (ht : e ≠ t) : ∀ b, v.ownBlock = some b → Sane t w b := by
  intro b hb
  rcases h.1.2 with ⟨rfl, _⟩ | ⟨g, cap, cur, rfl, _, hg, _⟩
  · cases hb
  · injection hb with hb
    subst hb
    exact sane_of hg ht
theorem OwnX.setO {base : Nat} {w : World} {e : TypeId} {sz n b o : Nat} {v : Value} {xs : List Value} (h : OwnX base w e sz v n xs) (hb : v.ownBlock ≠ some b) (u : Value) : OwnX base (w.setCell ⟨b, o, none⟩ u) e sz v n xs :=
  ⟨ownsRow_setCell_other h.1 (a := ⟨b, o, none⟩) hb u, by simpa using h.2⟩
theorem OwnX.alloc {base : Nat} {w : World} {e : TypeId} {sz n : Nat} {v : Value} {xs : List Value} (h : OwnX base w e sz v n xs) (o : Obj) : OwnX base (w.alloc o) e sz v n xs := ⟨h.1.alloc o, by have := h.2; simp; omega⟩

/-- v is a row of statements in blocks from base on, each one's memory apart -/
def GrwO (base : Nat) (w : World) (v : Value) (l : List St) : Prop :=
  ∃ (xs : List V8) (G : Nat → Nat → Prop), xs.length = l.length ∧ OwnX base w 36 8 v l.length (xs.flatMap V8.cells) ∧ (∀ i b, i < l.length → G i b → base ≤ b ∧ b < w.heap.size ∧ v.ownBlock ≠ some b) ∧ (∀ i j b, i < l.length → j < l.length → i ≠ j → G i b → G j b → False) ∧ ∀ i (h : i < l.length) (h' : i < xs.length), StO w (G i) xs[i] l[i]
theorem GrwO.slice {base : Nat} {w : World} {v : Value} {l : List St} (h : GrwO base w v l) : ∃ A c, v = .slice A l.length c ∧ l.length ≤ c ∧ c ≤ maxLen := by
  obtain ⟨xs, G, hl, ow, _⟩ := h
  obtain ⟨A, c, rfl, hc⟩ := own_slice ow.1
  exact ⟨A, c, rfl, hc, own_cap' ow.own⟩
theorem GrwO.nil {base : Nat} {w : World} (hb : base ≤ w.heap.size) : GrwO base w (.slice none 0 0) [] :=
  ⟨[], fun _ _ => False, rfl, ⟨World.ownsRow_nil _ _ _ _, hb⟩, fun i b h => absurd h (by simp), fun i j b h => absurd h (by simp), fun i h => absurd h (by simp)⟩
theorem GrwO.empty {base : Nat} {w : World} (hb : base ≤ w.heap.size) : GrwO base (w.alloc (.cells #[] 36)) (.slice (some ⟨w.heap.size, 0, none⟩) 0 0) [] :=
  ⟨[], fun _ _ => False, rfl, ⟨World.ownsRow_lit w #[] 0 hb (by simp [maxLen]) rfl, by simp; omega⟩, fun i b h => absurd h (by simp), fun i j b h => absurd h (by simp), fun i h => absurd h (by simp)⟩
theorem GrwO.keep {base : Nat} {w w' : World} {v : Value} {l : List St} {S : Nat → Prop} (h : GrwO base w v l) (hk : Keep S w w') (hS : ∀ b, base ≤ b → b < w.heap.size → S b) : GrwO base w' v l := by
  obtain ⟨xs, G, hl, ow, hG, hd, hx⟩ := h
  refine ⟨xs, G, hl, ow.keep hk (fun b hb => hS b (ow.lt b hb).1 (ow.lt b hb).2), fun i b hi hb => ?_, hd, fun i hi hi' => (hx i hi hi').keep fun b hb => ?_⟩
  · have := hG i b hi hb
    exact ⟨this.1, Nat.lt_of_lt_of_le this.2.1 hk.size, this.2.2⟩
  · have := hG i b hi hb
    exact hk.block b this.2.1 (hS b this.1 this.2.1)
theorem GrwO.below {base : Nat} {w w' : World} {v : Value} {l : List St} (h : GrwO base w v l) (hb : Below w.heap.size w w') : GrwO base w' v l := h.keep (Keep.of_below (S := fun _ => True) hb) (fun _ _ _ => trivial)
/-- one more, whose memory was made since -/
theorem grw_app {base : Nat} {w0 w1 w2 : World} {v v' : Value} {l : List St} {xs : List V8} {G : Nat → Nat → Prop} {x : V8} {g : St} {S : Nat → Prop}
    (hl : xs.length = l.length) (ow : OwnX base w0 36 8 v l.length (xs.flatMap V8.cells)) (hG : ∀ i b, i < l.length → G i b → base ≤ b ∧ b < w0.heap.size ∧ v.ownBlock ≠ some b) (hd : ∀ i j b, i < l.length → j < l.length → i ≠ j → G i b → G j b → False) (hx : ∀ i (h : i < l.length) (h' : i < xs.length), StO w0 (G i) xs[i] l[i])
    (hk : Keep S w0 w1) (hS : ∀ b, base ≤ b → b < w0.heap.size → S b) (ht : StO w1 (Made w0 w1) x g) (own3 : Own (cutX base w1) w2 36 8 v' (l.length + 1) (xs.flatMap V8.cells ++ x.cells)) (gr : Grew v v' w1 w2) : GrwO base w2 v' (l ++ [g]) := by
  have h01 := hk.size
  have h12 := gr.keep.size
  have hb0 := ow.2
  have hlt := ow.lt
  have key : ∀ b, b < w1.heap.size → v.ownBlock ≠ some b → v'.ownBlock ≠ some b := by
    intro b hb hv e
    rcases gr.lies with h1 | ⟨q, h1, h2⟩
    · exact hv (h1 ▸ e)
    · rw [h1] at e; injection e with e; omega
  have hn : ∀ b, w0.heap.size ≤ b → v.ownBlock ≠ some b := fun b hb e => by have := hlt b e; omega
  have hlen : (l ++ [g]).length = l.length + 1 := by simp
  refine ⟨xs ++ [x], fun i b => if i < l.length then G i b else Made w0 w1 b, by simp [hl], ?_, fun i b hi hb => ?_, fun i j b hi hj hne h1 h2 => ?_, fun i hi hi' => ?_⟩
  · rw [hlen, List.flatMap_append]
    have e1 : [x].flatMap V8.cells = x.cells := by simp
    rw [e1]
    exact OwnX.of (by omega) own3
  · by_cases e : i < l.length
    · simp only [e, if_true] at hb
      have := hG i b e hb
      exact ⟨this.1, by omega, key b (by omega) this.2.2⟩
    · simp only [e, if_false] at hb
      have h1 := hb.1
      have h2 := hb.2
      exact ⟨by omega, by omega, key b h2 (hn b h1)⟩
  · rw [hlen] at hi hj
    by_cases e : i < l.length
    · by_cases e' : j < l.length
      · simp only [e, e', if_true] at h1 h2; exact hd i j b e e' hne h1 h2
      · simp only [e, e', if_true, if_false] at h1 h2; have := hG i b e h1; have := h2.1; omega
    · by_cases e' : j < l.length
      · simp only [e, e', if_true, if_false] at h1 h2; have := hG j b e' h2; have := h1.1; omega
      · omega
  · rw [hlen] at hi
    by_cases e : i < l.length
    · have e2 : i < xs.length := by omega
      simp only [e, if_true]
      rw [List.getElem_append_left e2, List.getElem_append_left e]
      have hb := fun b hb => hG i b e hb
      exact ((hx i e e2).keep fun b q => hk.block b (hb b q).2.1 (hS b (hb b q).1 (hb b q).2.1)).keep fun b q => gr.keep.block b (by have := (hb b q).2.1; omega) (hb b q).2.2
    · have e2 : i = l.length := by omega
      subst e2
      simp only [Nat.lt_irrefl, if_false]
      have e3 : (xs ++ [x])[l.length] = x := by simp [← hl]
      have e4 : (l ++ [g])[l.length] = g := by simp
      rw [e3, e4]
      exact ht.keep fun b q => gr.keep.block b q.2 (hn b q.1)
theorem GrwO.row {w0 w : World} {A : Option Addr} {c : Nat} {l : List St} (h : GrwO w0.heap.size w (.slice A l.length c) l) : StRowO w (Made w0 w) A l := by
  obtain ⟨xs, G, hl, ow, hG, hd, hx⟩ := h
  refine stRowO_of (xs := xs) (G := G) hl ⟨ow.own.rd, fun hn => ?_, fun i b hi hb => ⟨(hG i b hi hb).1, (hG i b hi hb).2.1⟩, hd⟩ hx
  rcases ow.1.2 with ⟨h, _⟩ | ⟨g, cap, cur, h, hb, hg, _⟩
  · injection h with _ h2; omega
  · injection h with h1 h2
    subst h1
    exact ⟨g, 0, cur, _, rfl, ⟨hb, lt_of_block hg⟩, hg, fun i hi hb => (hG i g hi hb).2.2 rfl⟩
end Go.Proofs.Ytadcebdhgocmhaa
