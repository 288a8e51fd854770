/- Several texts in one: Keep, GrewG, LexImpl. -/
import Derived.Test.YtdanlgmpgdipnaaDoorKd4
import Derived.OneCell
import Derived.Maps.AppendAt
import Derived.Test.YtdanlgmpgdipnaaDoorKd10
namespace Go.Proofs.YtdanlgmpgdipnaaDoor
open Go.RowKit
set_option linter.unusedVariables false


/-- the blocks of S are as they were -/
structure Keep (S : Nat → Prop) (w w' : World) : Prop where
  os : w'.os = w.os
  tape : w'.tape = w.tape
  output : w'.output = w.output
  size : w.heap.size ≤ w'.heap.size
  block : ∀ k, k < w.heap.size → S k → w'.heap[k]? = w.heap[k]?
theorem Keep.refl (S : Nat → Prop) (w : World) : Keep S w w := ⟨rfl, rfl, rfl, Nat.le_refl _, fun _ _ _ => rfl⟩
theorem Keep.trans {S S' : Nat → Prop} {a b c : World} (h : Keep S a b) (k : Keep S' b c) (hs : ∀ i, i < a.heap.size → S i → S' i) : Keep S a c :=
  ⟨k.os.trans h.os, k.tape.trans h.tape, k.output.trans h.output, Nat.le_trans h.size k.size, fun i hi hS => (k.block i (Nat.lt_of_lt_of_le hi h.size) (hs i hi hS)).trans (h.block i hi hS)⟩
theorem Keep.of_below {S : Nat → Prop} {w w' : World} (h : Below w.heap.size w w') : Keep S w w' := ⟨h.os, h.tape, h.output, h.size, fun k hk _ => h.block k hk⟩
theorem Keep.below {S : Nat → Prop} {w w' : World} {n : Nat} (h : Keep S w w') (hn : n ≤ w.heap.size) (hs : ∀ b, b < n → S b) : Below n w w' := ⟨h.os, h.tape, h.output, h.size, fun k hk => h.block k (by omega) (hs k hk)⟩
theorem Keep.cell {S : Nat → Prop} {w w' : World} (h : Keep S w w') {p : Addr} (hp : p.block < w.heap.size) (hS : S p.block) : w'.cell? p = w.cell? p := World.cell?_of_block (w := w) (h.block p.block hp hS)
theorem Keep.cellEq {S : Nat → Prop} {w w' : World} (h : Keep S w w') {p : Addr} {v : Value} (hS : S p.block) (hv : w.cell? p = some v) : w'.cell? p = some v := (h.cell (cell_lt hv) hS).trans hv
theorem Keep.setCell {S : Nat → Prop} {w w' : World} {p : Addr} (h : Keep S w w') (hp : ¬ S p.block) (u : Value) : Keep S w (w'.setCell p u) :=
  ⟨h.os, h.tape, h.output, by simpa using h.size, fun k hk hS => (Below.heap_setCell w' p u k (fun e => hp (by rw [← e]; exact hS))).trans (h.block k hk hS)⟩
theorem Keep.alloc {S : Nat → Prop} {w w' : World} (h : Keep S w w') (o : Obj) : Keep S w (w'.alloc o) := h.trans (Keep.of_below (S := S) (Below.alloc (Below.refl _ _) (Nat.le_refl _) _)) (fun _ _ h => h)
theorem heap_alloc_lt {w : World} {o : Obj} {k : Nat} (h : k < w.heap.size) : (w.alloc o).heap[k]? = w.heap[k]? := (Below.alloc (Below.refl w.heap.size w) (Nat.le_refl _) o).block k h
/-- blocks of another kind than t's rows -/
def Sane (t : TypeId) (w : World) : Nat → Prop := fun k => ∀ cur, w.heap[k]? ≠ some (.cells cur t (0, 0))
/-- all that is no row of t's is as it was -/
abbrev KeepT (t : TypeId) (w w' : World) : Prop := Keep (Sane t w) w w'
theorem KeepT.trans' {t : TypeId} {a b c : World} (h : KeepT t a b) (k : KeepT t b c) : KeepT t a c := Keep.trans h k (fun i hi hS cur e => hS cur ((h.block i hi hS).symm.trans e))
theorem KeepT.of_below' {t : TypeId} {w w' : World} (h : Below w.heap.size w w') : KeepT t w w' := Keep.of_below h
theorem sane_of {t t' : TypeId} {w : World} {k : Nat} {cur : Array Value} {fr : Nat × Nat} (h : w.heap[k]? = some (.cells cur t' fr)) (hne : t' ≠ t) : Sane t w k := fun cur' e => by
  rw [h] at e
  injection e with e
  injection e with _ e
  exact hne e

/-- all but v's own row is as it was; v' lies in v's row or in a new block -/
structure Grew (v v' : Value) (w w' : World) : Prop where
  keep : Keep (fun i => v.ownBlock ≠ some i) w w'
  lies : v'.ownBlock = v.ownBlock ∨ ∃ g, v'.ownBlock = some g ∧ w.heap.size ≤ g
theorem Grew.refl (v : Value) (w : World) : Grew v v w w := ⟨Keep.refl _ _, .inl rfl⟩
theorem Grew.of_below {v : Value} {w w' : World} (h : Below w.heap.size w w') : Grew v v w w' := ⟨Keep.of_below h, .inl rfl⟩
theorem Grew.trans {u v x : Value} {a b c : World} (h : Grew u v a b) (k : Grew v x b c) : Grew u x a c := by
  refine ⟨h.keep.trans k.keep (fun i hi hu e => ?_), ?_⟩
  · rcases h.lies with h1 | ⟨g, h1, h2⟩
    · exact hu (h1.symm.trans e)
    · rw [h1] at e; injection e with e; omega
  · rcases k.lies with k1 | ⟨g, k1, k2⟩
    · rw [k1]; exact h.lies
    · exact .inr ⟨g, k1, Nat.le_trans h.keep.size k2⟩
theorem Keep.mono {S S' : Nat → Prop} {w w' : World} (h : Keep S w w') (hs : ∀ i, i < w.heap.size → S' i → S i) : Keep S' w w' := ⟨h.os, h.tape, h.output, h.size, fun k hk hS => h.block k hk (hs k hk hS)⟩
theorem Own.neT {w0 w : World} {e : TypeId} {sz n b : Nat} {v : Value} {xs : List Value} (h : Own w0 w e sz v n xs) (hb : Sane e w b) : v.ownBlock ≠ some b := by
  intro e
  rcases h.1.2 with ⟨rfl, _⟩ | ⟨g, cap, cur, rfl, _, hg, _⟩
  · cases e
  · injection e with e
    subst e
    exact hb cur hg
section
variable {P : Program} {w0 w : World}
theorem run_appG (t ty e : TypeId) (sz bt : Nat) (T : ElemT P t e sz bt) (v : Value) (n : Nat) (xs : List Value) (own : Own w0 w e sz v n xs)
    (A : Option Addr) (m c : Nat) (news : List Value) (rd : Rd w sz A m news) (h1 : ∀ u ∈ news, u.oneCell' = true) (h63 : n + m ≤ maxLen) (hb : (n + m) * bt ≤ 140737488355328) :
    ∃ v' w', (Builtin.append_ #[t, t] ty #[v, .slice A m c]).run P w = .ok v' w' ∧ Own w0 w' e sz v' (n + m) (xs ++ news) ∧ Grew v v' w w' := by
  obtain ⟨i, z, hi, hz, hs, hbt, hzs⟩ := T.info
  rcases A with _ | ad
  · have hm : m = 0 := by
      rcases Nat.eq_zero_or_pos m with h | h
      · exact h
      · obtain ⟨b, off, e, _⟩ := rd.2 h; cases e
    subst hm
    have hn : news = [] := List.eq_nil_of_length_eq_zero (by simpa using rd.1)
    subst hn
    refine ⟨v, w, ?_, by simpa using own, Grew.refl _ _⟩
    rcases own.1.2 with ⟨rfl, rfl⟩ | ⟨g, cap, cur, rfl, _, _, hnc, _⟩
    · simp [Builtin.append_, run_underlying T.under, sizeOf, typeInfo, hi, Builtin.lenOf, Builtin.firstCells]
    · simp [Builtin.append_, run_underlying T.under, sizeOf, typeInfo, hi, Builtin.lenOf, Builtin.firstCells, hnc, storeCells]
  · have hcells : ∀ j u, news[j]? = some u → w.cell? (ad.add j) = some u := by
      intro j u hu
      rcases Nat.eq_zero_or_pos m with h0 | h0
      · subst h0
        have hn : news = [] := List.eq_nil_of_length_eq_zero (by simpa using rd.1)
        subst hn
        simp at hu
      · obtain ⟨b, off, h, hc⟩ := rd.2 h0
        injection h with h
        subst h
        rw [Addr.add_lit]
        exact hc j u hu
    obtain ⟨v', w', hr, h2, h3, _, h5⟩ := run_append_own_at (P := P) w w0.heap.size t ty e i z sz bt T.under hi hz hs hbt hzs T.pos v n xs own.1 ad m c news rd.1 hcells h1 h63 hb own.2.size
    refine ⟨v', w', hr, own.grown h2 h3, ⟨h3.os, h3.tape, h3.output, h3.size, fun k hk hne => h3.block k hk (fun e => hne e.symm)⟩, ?_⟩
    rcases h5 with h5 | h5
    · exact .inl h5
    · exact .inr ⟨_, h5, Nat.le_refl _⟩
theorem wp_appG {o : Oper} {a : Act} {K : Act → World → Prop} {Q : Exit → Act → World → Prop} (s x : Operand) (t : TypeId)
    (ho : o.op = .call { callee := .builtin .append, args := #[s, x], argTypes := #[t, t] }) {e : TypeId} {sz bt : Nat} (T : ElemT P t e sz bt) {v : Value} {n : Nat} {xs : List Value} (hs : a.eval s = v) (own : Own w0 w e sz v n xs)
    (A : Option Addr) (m c : Nat) (news : List Value) (hx : a.eval x = .slice A m c) (rd : Rd w sz A m news) (h1 : ∀ u ∈ news, u.oneCell' = true) (h63 : n + m ≤ maxLen) (hb : (n + m) * bt ≤ 140737488355328)
    (h : ∀ v' w', Own w0 w' e sz v' (n + m) (xs ++ news) → Grew v v' w w' → K (a.put o.dst v') w') : o.wp P a w K Q := by
  obtain ⟨v', w', hr, h2, h3⟩ := run_appG (P := P) t o.type e sz bt T v n xs own A m c news rd h1 h63 hb
  unfold Oper.wp execOp
  simp only [ho, resolve, invoke, builtin, Sem.run_bind, Sem.run_pure, Result.andThen_ok, List.map_toArray, List.map_cons, List.map_nil, hs, hx, hr]
  exact h v' w' h2 h3
/-- append onto a row of the call's own, in a plain region -/
theorem wpList_appG {ops : Array Oper} {rest : List Oper} {o : Oper} {a : Act} {Q : Exit → Act → World → Prop} (hgd : o.guard = none) (s x : Operand) (t : TypeId)
    (ho : o.op = .call { callee := .builtin .append, args := #[s, x], argTypes := #[t, t] }) {e : TypeId} {sz bt : Nat} (T : ElemT P t e sz bt) {v : Value} {n : Nat} {xs : List Value} (hs : a.eval s = v) (own : Own w0 w e sz v n xs)
    (A : Option Addr) (m c : Nat) (news : List Value) (hx : a.eval x = .slice A m c) (rd : Rd w sz A m news) (h1 : ∀ u ∈ news, u.oneCell' = true) (h63 : n + m ≤ maxLen) (hb : (n + m) * bt ≤ 140737488355328)
    (h : ∀ v' w', Own w0 w' e sz v' (n + m) (xs ++ news) → Grew v v' w w' → wpList P ops Q rest (a.put o.dst v') w') : wpList P ops Q (o :: rest) a w :=
  wpList_plain hgd fun _ hK => wp_appG s x t ho T hs own A m c news hx rd h1 h63 hb fun v' w' h2 h3 => hK _ _ (h v' w' h2 h3)
/-- the same where what is appended has just been laid in a new block -/
theorem wpList_appG_new {ops : Array Oper} {rest : List Oper} {o : Oper} {a : Act} {Q : Exit → Act → World → Prop} (g : Nat) (hg : g = w.heap.size) (hgd : o.guard = none) (s x : Operand) (t : TypeId)
    (ho : o.op = .call { callee := .builtin .append, args := #[s, x], argTypes := #[t, t] }) {e : TypeId} {sz bt : Nat} (T : ElemT P t e sz bt) {v : Value} {n : Nat} {xs : List Value} (own : Own w0 w e sz v n xs)
    (cs : Array Value) (m : Nat) (hs : a.eval s = v) (hx : a.eval x = .slice (some ⟨g, 0, none⟩) m m) (hl : cs.size = m * sz) (h1 : ∀ u ∈ cs.toList, u.oneCell' = true) (h63 : n + m ≤ maxLen) (hb : (n + m) * bt ≤ 140737488355328)
    (h : ∀ v' w', Own w0 w' e sz v' (n + m) (xs ++ cs.toList) → Grew v v' w w' → wpList P ops Q rest (a.put o.dst v') w') : wpList P ops Q (o :: rest) a (w.alloc (.cells cs e)) := by
  subst hg
  exact wpList_appG hgd s x t ho T hs (own.alloc _) _ m m cs.toList hx (Rd.new w sz m cs e hl) h1 h63 hb fun v' w' h2 h3 =>
    h v' w' h2 ((Grew.of_below (Below.alloc (Below.refl _ _) (Nat.le_refl _) _)).trans h3)
end
/-- the world's first blocks -/
def cutX (base : Nat) (w : World) : World := { w with heap := w.heap.extract 0 base }
theorem cutX_size {base : Nat} {w : World} (h : base ≤ w.heap.size) : (cutX base w).heap.size = base := by simp [cutX]; omega
theorem cutX_below {base : Nat} {w : World} (h : base ≤ w.heap.size) : Below (cutX base w).heap.size (cutX base w) w := by
  refine ⟨rfl, rfl, rfl, ?_, fun k hk => ?_⟩
  · rw [cutX_size h]; exact h
  · rw [cutX_size h] at hk
    simp [cutX, Array.getElem?_extract]; omega
/-- v owns the cells xs in blocks from base on -/
def OwnX (base : Nat) (w : World) (e : TypeId) (sz : Nat) (v : Value) (n : Nat) (xs : List Value) : Prop := w.ownsRow base e sz v n xs ∧ base ≤ w.heap.size
theorem OwnX.own {base : Nat} {w : World} {e : TypeId} {sz n : Nat} {v : Value} {xs : List Value} (h : OwnX base w e sz v n xs) : Own (cutX base w) w e sz v n xs := ⟨by rw [cutX_size h.2]; exact h.1, cutX_below h.2⟩
theorem OwnX.of {base : Nat} {w w' : World} {e : TypeId} {sz n : Nat} {v : Value} {xs : List Value} (hb : base ≤ w.heap.size) (h : Own (cutX base w) w' e sz v n xs) : OwnX base w' e sz v n xs := by
  have h1 := h.1
  have h2 := h.2.size
  rw [cutX_size hb] at h1 h2
  exact ⟨h1, h2⟩
theorem OwnX.of_own {w0 w : World} {e : TypeId} {sz n : Nat} {v : Value} {xs : List Value} (h : Own w0 w e sz v n xs) : OwnX w0.heap.size w e sz v n xs := ⟨h.1, h.2.size⟩
theorem OwnX.keep {base : Nat} {w w' : World} {e : TypeId} {sz n : Nat} {v : Value} {xs : List Value} {S : Nat → Prop} (h : OwnX base w e sz v n xs) (hk : Keep S w w') (hv : ∀ b, v.ownBlock = some b → S b) : OwnX base w' e sz v n xs := by
  refine ⟨⟨h.1.1, ?_⟩, Nat.le_trans h.2 hk.size⟩
  rcases h.1.2 with h' | ⟨g, cap, cur, rfl, hg, hh, r⟩
  · exact .inl h'
  · exact .inr ⟨g, cap, cur, rfl, hg, (hk.block g (lt_of_block hh) (hv g rfl)).trans hh, r⟩
theorem OwnX.lt {base : Nat} {w : World} {e : TypeId} {sz n : Nat} {v : Value} {xs : List Value} (h : OwnX base w e sz v n xs) : ∀ b, v.ownBlock = some b → base ≤ b ∧ b < w.heap.size := fun b hb => h.1.lt b hb
theorem OwnX.neT {base : Nat} {w : World} {e : TypeId} {sz n b : Nat} {v : Value} {xs : List Value} (h : OwnX base w e sz v n xs) (hb : Sane e w b) : v.ownBlock ≠ some b := Own.neT h.own hb
theorem OwnX.alloc {base : Nat} {w : World} {e : TypeId} {sz n : Nat} {v : Value} {xs : List Value} (h : OwnX base w e sz v n xs) (o : Obj) : OwnX base (w.alloc o) e sz v n xs := ⟨h.1.alloc o, by have := h.2; simp; omega⟩

def sgF (x : Sg) : List Value := [.int .i64 x.k, .string x.t, .int .i64 (x.p : Int)]
theorem sgF_len (x : Sg) : (sgF x).length = 3 := rfl
theorem sgF_snoc (l : List Sg) (x : Sg) : (l ++ [x]).flatMap sgF = l.flatMap sgF ++ sgF x := by simp
theorem sgRT : ElemT Tryd.prog 37 62 3 32 := ElemT.mk' (z := .agg #[.int .i64 0, .string ByteArray.empty, .int .i64 0]) Tryd.underlying37 (by kernel_rfl) rfl (by decide)
/-- signs in a row of the call's own -/
def OutS (w0 w : World) (v : Value) (l : List Sg) : Prop := Own w0 w 62 3 v l.length (l.flatMap sgF)
theorem OutS.nil {w0 w : World} (h : Below w0.heap.size w0 w) : OutS w0 w (.slice none 0 0) [] := Own.startB h _ _
theorem OutS.empty {w0 w : World} (h : Below w0.heap.size w0 w) : OutS w0 (w.alloc (.cells #[] 62)) (.slice (some ⟨w.heap.size, 0, none⟩) 0 0) [] := Own.lit h _ 3 0 #[] (by simp [maxLen]) rfl
theorem OutS.below {w0 w w' : World} {v : Value} {l : List Sg} (h : OutS w0 w v l) (hb : Below w.heap.size w w') : OutS w0 w' v l := Own.below h hb
theorem OutS.own {w0 w : World} {v : Value} {l : List Sg} (h : OutS w0 w v l) : Below w0.heap.size w0 w := h.2
theorem OutS.slice {w0 w : World} {v : Value} {l : List Sg} (h : OutS w0 w v l) : ∃ A c, v = .slice A l.length c := by
  obtain ⟨A, c, e, _⟩ := Own.slice h
  exact ⟨A, c, e⟩
/-- the fault's variable, yet zero -/
def FltZ (w : World) (g : Nat) : Prop := w.heap[g]? = some (.cells #[.int .i64 0, .int .i64 0] 27 (0, 0))
theorem FltZ.keep {w w' : World} {g : Nat} {S : Nat → Prop} (h : FltZ w g) (hk : Keep S w w') (hS : S g) : FltZ w' g := (hk.block g (lt_of_block h) hS).trans h
theorem FltZ.below {w w' : World} {g : Nat} (h : FltZ w g) (hb : Below w.heap.size w w') : FltZ w' g := (hb.block g (lt_of_block h)).trans h
theorem FltZ.cells {w : World} {g : Nat} (h : FltZ w g) : w.cell? ⟨g, 0, none⟩ = some (.int .i64 0) ∧ w.cell? ⟨g, 1, none⟩ = some (.int .i64 0) ∧ w.frozen? ⟨g, 0, none⟩ = false ∧ w.frozen? ⟨g, 1, none⟩ = false := by
  unfold FltZ at h
  refine ⟨?_, ?_, ?_, ?_⟩ <;> simp [World.cell?, World.frozen?, h]
theorem FltZ.grew {w0 w w' : World} {v v' : Value} {l : List Sg} {g : Nat} (h : FltZ w g) (o : OutS w0 w v l) (k : Grew v v' w w') : FltZ w' g := h.keep k.keep (Own.neT o (sane_of h (by decide)))
theorem setC2 {w0 w : World} {v : Value} {l : List Sg} {g : Nat} (o : OutS w0 w v l) (f : FltZ w g) (a b : Value) (hg : w0.heap.size ≤ g) : OutS w0 ((w.setCell ⟨g, 0, none⟩ a).setCell ⟨g, 1, none⟩ b) v l := by
  have hv : v.ownBlock ≠ some g := Own.neT o (sane_of f (by decide))
  refine ⟨ownsRow_setCell_other (ownsRow_setCell_other o.1 (a := ⟨g, 0, none⟩) hv a) (a := ⟨g, 1, none⟩) hv b, (o.2.setCell hg _).setCell hg _⟩
theorem grew_new {w0 w w' : World} {v v' : Value} {l : List Sg} {cs : Array Value} {e : TypeId} (o : OutS w0 w v l) (k : Grew v v' (w.alloc (.cells cs e)) w') : w'.heap[w.heap.size]? = some (.cells cs e (0, 0)) := by
  refine (k.keep.block _ (by simp) (fun e1 => ?_)).trans (heap_alloc_new _ _)
  have := (o.1.lt _ e1).2
  omega
theorem blank_of {c : UInt8} : blankB c = ((c.toNat : Int) == 32 || (c.toNat : Int) == 9 || (c.toNat : Int) == 10 || (c.toNat : Int) == 13) := by
  have key : ∀ n : Nat, decide (c.toNat = n) = ((c.toNat : Int) == (n : Int)) := fun n => by
    rw [Bool.eq_iff_iff, decide_eq_true_eq, beq_iff_eq]; omega
  unfold blankB
  rw [key 32, key 9, key 10, key 13]; rfl
/-- what Lex comes back as -/
def RetL (w : World) (r : List Sg × Int × Int) (e : Ending) (w' : World) : Prop := ∃ v', e = .returned (.tuple #[v', .agg #[.int .i64 r.2.1, .int .i64 r.2.2]]) ∧ OutS w w' v' r.1
set_option maxHeartbeats 3200000 in
set_option maxRecDepth 100000 in
theorem impl_Lex (s : ByteArray) (w : World) (tab : TabW w) : Calls Tryd.prog 29 #[.string s] w (RetL w (lexR s)) := by
  have TB := Lib.hid tab
  clear tab
  by_cases hs : 6000 < s.size
  · have HR := Lib.hid (lexR_long hs)
    have hs' : (6000 : Int) < (s.size : Int) := by omega
    go_enter Tryd.func29, Tryd.ntmps29
    go_wp2_with fail
    refine bodyPost_ret (v := .tuple #[.slice none 0 0, .agg #[.int .i64 1, .int .i64 0]]) (by simp [results, Tryd.results29, go_sem]) rfl ?_
    unfold RetL
    rw [HR.out]
    exact ⟨_, rfl, OutS.nil (by repeat' (first | exact Below.refl _ _ | exact Nat.le_refl _ | (refine Below.alloc ?_ ?_ _) | (refine Below.setCell ?_ ?_ _) | (refine Below.drew ?_) | (refine below_drewN ?_ _) | assumption | (simp; done) | (simp; omega)))⟩
  have hs' : ¬ (6000 : Int) < (s.size : Int) := by omega
  have HR0 := Lib.hid (lexR_short hs)
  go_enter Tryd.func29, Tryd.ntmps29
  go_wp2_with fail
  go_loopw [4, 5] (fun ov iv wr => ∃ j : Nat, j ≤ s.size ∧ iv = .int .i64 (j : Int) ∧ ∃ A' n c', ov = .slice A' n c' ∧ Hid (∃ acc : List Sg, acc.length = n ∧ n ≤ j ∧ OutS w wr (.slice A' n c') acc ∧ lexS s j acc = lexR s ∧ FltZ wr w.heap.size)) (fun _ iv _ => s.size - (intOf iv).toNat)
  case atStart => exact ⟨0, by omega, rfl, none, 0, 0, rfl, Lib.hid ⟨[], rfl, Nat.le_refl _, OutS.nil (by repeat' (first | exact Below.refl _ _ | exact Nat.le_refl _ | (refine Below.alloc ?_ ?_ _) | (refine Below.setCell ?_ ?_ _) | (refine Below.drew ?_) | (refine below_drewN ?_ _) | assumption | (simp; done) | (simp; omega))), HR0.out.symm, heap_alloc_new _ _⟩⟩
  case round =>
    obtain ⟨j, hj, rfl, A', n, c', rfl, HR⟩ := hrel
    obtain ⟨acc, hn, hnj, own, hlx, flt⟩ := HR.out
    have OW := Lib.hid own
    have HLX := Lib.hid hlx
    have FL := Lib.hid flt
    clear own hlx flt HR
    by_cases hlt : j < s.size
    · have h0j : (0 : Int) ≤ (j : Int) := by omega
      have h1j : (j : Int) < (s.size : Int) := by omega
      cases q1 : ((s[j].toNat : Int) == 32) with
      | true =>
        have HB := Lib.hid (lexS_blank (acc := acc) hlt (by rw [blank_of, q1]; rfl))
        have own := OW.out
        have flt := FL.out
        go_wp2_with fail
        go_roundw
        case rel => exact ⟨j + 1, by omega, by go_num, A', n, c', rfl, Lib.hid ⟨acc, hn, by omega, own, by rw [← HB.out]; exact HLX.out, flt⟩⟩
        case measure => simp [intOf]; omega
      | false =>
        cases q2 : ((s[j].toNat : Int) == 9) with
        | true =>
          have HB := Lib.hid (lexS_blank (acc := acc) hlt (by rw [blank_of, q1, q2]; rfl))
          have own := OW.out
          have flt := FL.out
          go_wp2_with fail
          go_roundw
          case rel => exact ⟨j + 1, by omega, by go_num, A', n, c', rfl, Lib.hid ⟨acc, hn, by omega, own, by rw [← HB.out]; exact HLX.out, flt⟩⟩
          case measure => simp [intOf]; omega
        | false =>
          cases q3 : ((s[j].toNat : Int) == 10) with
          | true =>
            have HB := Lib.hid (lexS_blank (acc := acc) hlt (by rw [blank_of, q1, q2, q3]; rfl))
            have own := OW.out
            have flt := FL.out
            go_wp2_with fail
            go_roundw
            case rel => exact ⟨j + 1, by omega, by go_num, A', n, c', rfl, Lib.hid ⟨acc, hn, by omega, own, by rw [← HB.out]; exact HLX.out, flt⟩⟩
            case measure => simp [intOf]; omega
          | false =>
            cases q4 : ((s[j].toNat : Int) == 13) with
            | true =>
              have HB := Lib.hid (lexS_blank (acc := acc) hlt (by rw [blank_of, q1, q2, q3, q4]; rfl))
              have own := OW.out
              have flt := FL.out
              go_wp2_with fail
              go_roundw
              case rel => exact ⟨j + 1, by omega, by go_num, A', n, c', rfl, Lib.hid ⟨acc, hn, by omega, own, by rw [← HB.out]; exact HLX.out, flt⟩⟩
              case measure => simp [intOf]; omega
            | false =>
              have HNB : Hid (blankB s[j] = false) := Lib.hid (by rw [blank_of, q1, q2, q3, q4]; rfl)
              have hbd := signP_bd s j hlt
              go_wp2_with fail
              refine (impl_signAt s j hlt (by omega) _ (TB.out.below OW.out.own)).mono ?_
              rintro e w1 ⟨rfl, b1⟩
              have O1 := Lib.hid (OW.out.below b1)
              have F1 := Lib.hid (FL.out.below b1)
              have HSG := Lib.hid (lexS_sign (acc := acc) hlt HNB.out)
              have HBD := Lib.hid (lexS_bad (acc := acc) hlt HNB.out)
              clear b1
              generalize hsp : signP s j hlt = sp at *
              obtain ⟨kd, en, ok⟩ := sp
              simp only at hbd HSG HBD
              cases ok with
              | false =>
                have HR : Hid (lexR s = ([], 2, (j : Int))) := Lib.hid (by rw [← HLX.out]; exact HBD.out rfl)
                obtain ⟨y0, y1, f0, f1⟩ := (F1.out.below (Below.alloc (Below.refl _ _) (Nat.le_refl _) (.cells #[.int .i64 kd, .string (s.extract j en), .int .i64 (j : Int)] 62))).cells
                go_wp2_with fail
                change bodyPost _ _ _ _ _ _
                refine bodyPost_ret (v := .tuple #[.slice none 0 0, .agg #[.int .i64 2, .int .i64 (j : Int)]]) (by simp [results, Tryd.results29, go_sem, y0, y1]) rfl ?_
                unfold RetL
                rw [HR.out]
                exact ⟨_, rfl, OutS.nil ((((O1.out.own.alloc O1.out.own.size _).setCell (by simp) _).setCell (by simp) _))⟩
              | true =>
                have HR : Hid (lexS s en (acc ++ [⟨kd, s.extract j en, j⟩]) = lexR s) := Lib.hid (by rw [← HLX.out]; exact (HSG.out rfl).symm)
                have hsz : (s.extract j en).size = en - j := by simp; omega
                obtain ⟨y0, y1, f0, f1⟩ := F1.out.cells
                go_wp2_with (at_builtin; refine wpList_appG_new (w1.heap.size + 1) (by simp) rfl _ _ _ rfl sgRT (O1.out.below (by repeat' (first | exact Below.refl _ _ | exact Nat.le_refl _ | (refine Below.alloc ?_ ?_ _) | (refine Below.setCell ?_ ?_ _) | (refine Below.drew ?_) | (refine below_drewN ?_ _) | assumption | (simp; done) | (simp; omega)))) _ 1 rfl rfl rfl (by simp [Value.oneCell']) (by simp only [maxLen]; omega) (by omega) ?_; intro v3 w3 own3 gr3; have O3 := Lib.hid own3; have G3 := Lib.hid gr3; have hb3 := grew_new O1.out gr3; have c31 : w3.cell? ⟨w1.heap.size, 1, none⟩ = some (.string (s.extract j en)) := (by simp [World.cell?, hb3]); clear own3 gr3 hb3)
                have O4 : Hid (OutS w w3 v3 (acc ++ [⟨kd, s.extract j en, j⟩])) := Lib.hid (by
                  unfold OutS
                  rw [List.length_append, sgF_snoc]
                  exact O3.out)
                have F4 := Lib.hid (F1.out.below (Below.alloc (Below.refl _ _) (Nat.le_refl _) (.cells #[.int .i64 kd, .string (s.extract j en), .int .i64 (j : Int)] 62)))
                have F5 := Lib.hid (F4.out.grew (O1.out.below (Below.alloc (Below.refl _ _) (Nat.le_refl _) _)) G3.out)
                obtain ⟨A3, c3, rfl⟩ := O4.out.slice
                have hen : ((en - j : Nat) : Int) = (en : Int) - (j : Int) := by omega
                clear O3 G3 y0 y1 f0 f1 F4
                go_roundw
                case rel => exact ⟨en, by omega, by go_num, A3, n + 1, c3, by first | rfl | (rw [List.length_append, hn]; rfl), Lib.hid ⟨_, by rw [List.length_append, hn]; rfl, by omega, by have := O4.out; rw [List.length_append, hn] at this; exact this, HR.out, F5.out⟩⟩
                case measure => simp [intOf]; omega
    · have h1j : ¬ (j : Int) < (s.size : Int) := by omega
      have HRR : Hid (lexR s = (acc, 0, 0)) := Lib.hid (by rw [← HLX.out]; exact lexS_end hlt)
      obtain ⟨y0, y1, f0, f1⟩ := FL.out.cells
      go_wp2_with fail
      change bodyPost _ _ _ _ _ _
      refine bodyPost_ret (v := .tuple #[.slice A' n c', .agg #[.int .i64 0, .int .i64 0]]) (by simp [results, Tryd.results29, go_sem, y0, y1]) rfl ?_
      unfold RetL
      rw [HRR.out]
      subst hn
      exact ⟨_, rfl, setC2 OW.out FL.out _ _ (Nat.le_refl _)⟩
end Go.Proofs.YtdanlgmpgdipnaaDoor
