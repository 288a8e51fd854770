/- Several texts in one: GrewG, OutB, Txt, Say, TxtImpl, TxtLaw. -/
import Derived.Test.YtefcdpkficojgaaDoorKeep
import Derived.OneCell
import Derived.Maps.AppendAt
import Derived.Test.YtefcdpkficojgaaDoorHex
import Derived.Lib.AppendStr
import Derived.Test.YtefcdpkficojgaaDoorWork
import Derived.Test.YtefcdpkficojgaaDoorItoa
import Derived.Deep.CutRange
import Derived.Test.YtefcdpkficojgaaDoorDecLaws
import Derived.Test.YtefcdpkficojgaaDoorLater
namespace Go.Proofs.YtefcdpkficojgaaDoor
open Go.RowKit
set_option linter.unusedVariables false


/-- all but v's own row is as it was; v' lies in v's row or in a new block -/
structure Grew (v v' : Value) (w w' : World) : Prop where
  keep : Keep (fun i => v.ownBlock ≠ some i) w w'
  lies : v'.ownBlock = v.ownBlock ∨ ∃ g, v'.ownBlock = some g ∧ w.heap.size ≤ g
theorem Grew.refl (v : Value) (w : World) : Grew v v w w := ⟨Keep.refl _ _, .inl rfl⟩
theorem Grew.of_below {v : Value} {w w' : World} (h : Below w.heap.size w w') : Grew v v w w' := ⟨Keep.of_below h, .inl rfl⟩
theorem Grew.trans {u v x : Value} {a b c : World} (h : Grew u v a b) (k : Grew v x b c) : Grew u x a c := by
  refine ⟨h.keep.trans k.keep (fun i hi hu e => ?_), ?_⟩
  · rcases h.lies with h1 | ⟨g, h1, h2⟩
    · exact hu (h1.symm.trans e)
    · rw [h1] at e; injection e with e; omega
  · rcases k.lies with k1 | ⟨g, k1, k2⟩
    · rw [k1]; exact h.lies
    · exact .inr ⟨g, k1, Nat.le_trans h.keep.size k2⟩
theorem Keep.mono {S S' : Nat → Prop} {w w' : World} (h : Keep S w w') (hs : ∀ i, i < w.heap.size → S' i → S i) : Keep S' w w' := ⟨h.os, h.tape, h.output, h.size, fun k hk hS => h.block k hk (hs k hk hS)⟩
theorem Own.neT {w0 w : World} {e : TypeId} {sz n b : Nat} {v : Value} {xs : List Value} (h : Own w0 w e sz v n xs) (hb : Sane e w b) : v.ownBlock ≠ some b := by
  intro e
  rcases h.1.2 with ⟨rfl, _⟩ | ⟨g, cap, cur, rfl, _, hg, _⟩
  · cases e
  · injection e with e
    subst e
    exact hb cur hg
theorem Grew.keepT {w0 w w' : World} {e : TypeId} {sz n : Nat} {v v' : Value} {xs : List Value} (h : Grew v v' w w') (own : Own w0 w e sz v n xs) : KeepT e w w' := h.keep.mono fun _ _ hS => own.neT hS
section
variable {P : Program} {w0 w : World}
theorem run_appG (t ty e : TypeId) (sz bt : Nat) (T : ElemT P t e sz bt) (v : Value) (n : Nat) (xs : List Value) (own : Own w0 w e sz v n xs)
    (A : Option Addr) (m c : Nat) (news : List Value) (rd : Rd w sz A m news) (h1 : ∀ u ∈ news, u.oneCell' = true) (h63 : n + m ≤ maxLen) (hb : (n + m) * bt ≤ 140737488355328) :
    ∃ v' w', (Builtin.append_ #[t, t] ty #[v, .slice A m c]).run P w = .ok v' w' ∧ Own w0 w' e sz v' (n + m) (xs ++ news) ∧ Grew v v' w w' := by
  obtain ⟨i, z, hi, hz, hs, hbt, hzs⟩ := T.info
  rcases A with _ | ad
  · have hm : m = 0 := by
      rcases Nat.eq_zero_or_pos m with h | h
      · exact h
      · obtain ⟨b, off, e, _⟩ := rd.2 h; cases e
    subst hm
    have hn : news = [] := List.eq_nil_of_length_eq_zero (by simpa using rd.1)
    subst hn
    refine ⟨v, w, ?_, by simpa using own, Grew.refl _ _⟩
    rcases own.1.2 with ⟨rfl, rfl⟩ | ⟨g, cap, cur, rfl, _, _, hnc, _⟩
    · simp [Builtin.append_, run_underlying T.under, sizeOf, typeInfo, hi, Builtin.lenOf, Builtin.firstCells]
    · simp [Builtin.append_, run_underlying T.under, sizeOf, typeInfo, hi, Builtin.lenOf, Builtin.firstCells, hnc, storeCells]
  · have hcells : ∀ j u, news[j]? = some u → w.cell? (ad.add j) = some u := by
      intro j u hu
      rcases Nat.eq_zero_or_pos m with h0 | h0
      · subst h0
        have hn : news = [] := List.eq_nil_of_length_eq_zero (by simpa using rd.1)
        subst hn
        simp at hu
      · obtain ⟨b, off, h, hc⟩ := rd.2 h0
        injection h with h
        subst h
        rw [Addr.add_lit]
        exact hc j u hu
    obtain ⟨v', w', hr, h2, h3, _, h5⟩ := run_append_own_at (P := P) w w0.heap.size t ty e i z sz bt T.under hi hz hs hbt hzs T.pos v n xs own.1 ad m c news rd.1 hcells h1 h63 hb own.2.size
    refine ⟨v', w', hr, own.grown h2 h3, ⟨h3.os, h3.tape, h3.output, h3.size, fun k hk hne => h3.block k hk (fun e => hne e.symm)⟩, ?_⟩
    rcases h5 with h5 | h5
    · exact .inl h5
    · exact .inr ⟨_, h5, Nat.le_refl _⟩
theorem wp_appG {o : Oper} {a : Act} {K : Act → World → Prop} {Q : Exit → Act → World → Prop} (s x : Operand) (t : TypeId)
    (ho : o.op = .call { callee := .builtin .append, args := #[s, x], argTypes := #[t, t] }) {e : TypeId} {sz bt : Nat} (T : ElemT P t e sz bt) {v : Value} {n : Nat} {xs : List Value} (hs : a.eval s = v) (own : Own w0 w e sz v n xs)
    (A : Option Addr) (m c : Nat) (news : List Value) (hx : a.eval x = .slice A m c) (rd : Rd w sz A m news) (h1 : ∀ u ∈ news, u.oneCell' = true) (h63 : n + m ≤ maxLen) (hb : (n + m) * bt ≤ 140737488355328)
    (h : ∀ v' w', Own w0 w' e sz v' (n + m) (xs ++ news) → Grew v v' w w' → K (a.put o.dst v') w') : o.wp P a w K Q := by
  obtain ⟨v', w', hr, h2, h3⟩ := run_appG (P := P) t o.type e sz bt T v n xs own A m c news rd h1 h63 hb
  unfold Oper.wp execOp
  simp only [ho, resolve, invoke, builtin, Sem.run_bind, Sem.run_pure, Result.andThen_ok, List.map_toArray, List.map_cons, List.map_nil, hs, hx, hr]
  exact h v' w' h2 h3
/-- append onto a row of the call's own, in a plain region -/
theorem wpList_appG {ops : Array Oper} {rest : List Oper} {o : Oper} {a : Act} {Q : Exit → Act → World → Prop} (hgd : o.guard = none) (s x : Operand) (t : TypeId)
    (ho : o.op = .call { callee := .builtin .append, args := #[s, x], argTypes := #[t, t] }) {e : TypeId} {sz bt : Nat} (T : ElemT P t e sz bt) {v : Value} {n : Nat} {xs : List Value} (hs : a.eval s = v) (own : Own w0 w e sz v n xs)
    (A : Option Addr) (m c : Nat) (news : List Value) (hx : a.eval x = .slice A m c) (rd : Rd w sz A m news) (h1 : ∀ u ∈ news, u.oneCell' = true) (h63 : n + m ≤ maxLen) (hb : (n + m) * bt ≤ 140737488355328)
    (h : ∀ v' w', Own w0 w' e sz v' (n + m) (xs ++ news) → Grew v v' w w' → wpList P ops Q rest (a.put o.dst v') w') : wpList P ops Q (o :: rest) a w :=
  wpList_plain hgd fun _ hK => wp_appG s x t ho T hs own A m c news hx rd h1 h63 hb fun v' w' h2 h3 => hK _ _ (h v' w' h2 h3)
/-- the same where what is appended has just been laid in a new block -/
theorem wpList_appG_new {ops : Array Oper} {rest : List Oper} {o : Oper} {a : Act} {Q : Exit → Act → World → Prop} (g : Nat) (hg : g = w.heap.size) (hgd : o.guard = none) (s x : Operand) (t : TypeId)
    (ho : o.op = .call { callee := .builtin .append, args := #[s, x], argTypes := #[t, t] }) {e : TypeId} {sz bt : Nat} (T : ElemT P t e sz bt) {v : Value} {n : Nat} {xs : List Value} (own : Own w0 w e sz v n xs)
    (cs : Array Value) (m : Nat) (hs : a.eval s = v) (hx : a.eval x = .slice (some ⟨g, 0, none⟩) m m) (hl : cs.size = m * sz) (h1 : ∀ u ∈ cs.toList, u.oneCell' = true) (h63 : n + m ≤ maxLen) (hb : (n + m) * bt ≤ 140737488355328)
    (h : ∀ v' w', Own w0 w' e sz v' (n + m) (xs ++ cs.toList) → Grew v v' w w' → wpList P ops Q rest (a.put o.dst v') w') : wpList P ops Q (o :: rest) a (w.alloc (.cells cs e)) := by
  subst hg
  exact wpList_appG hgd s x t ho T hs (own.alloc _) _ m m cs.toList hx (Rd.new w sz m cs e hl) h1 h63 hb fun v' w' h2 h3 =>
    h v' w' h2 ((Grew.of_below (Below.alloc (Below.refl _ _) (Nat.le_refl _) _)).trans h3)
end
/-- the world's first blocks -/
def cutX (base : Nat) (w : World) : World := { w with heap := w.heap.extract 0 base }
theorem cutX_size {base : Nat} {w : World} (h : base ≤ w.heap.size) : (cutX base w).heap.size = base := by simp [cutX]; omega
theorem cutX_below {base : Nat} {w : World} (h : base ≤ w.heap.size) : Below (cutX base w).heap.size (cutX base w) w := by
  refine ⟨rfl, rfl, rfl, ?_, fun k hk => ?_⟩
  · rw [cutX_size h]; exact h
  · rw [cutX_size h] at hk
    simp [cutX, Array.getElem?_extract]; omega
/-- v owns the cells xs in blocks from base on -/
def OwnX (base : Nat) (w : World) (e : TypeId) (sz : Nat) (v : Value) (n : Nat) (xs : List Value) : Prop := w.ownsRow base e sz v n xs ∧ base ≤ w.heap.size
theorem OwnX.own {base : Nat} {w : World} {e : TypeId} {sz n : Nat} {v : Value} {xs : List Value} (h : OwnX base w e sz v n xs) : Own (cutX base w) w e sz v n xs := ⟨by rw [cutX_size h.2]; exact h.1, cutX_below h.2⟩
theorem OwnX.of {base : Nat} {w w' : World} {e : TypeId} {sz n : Nat} {v : Value} {xs : List Value} (hb : base ≤ w.heap.size) (h : Own (cutX base w) w' e sz v n xs) : OwnX base w' e sz v n xs := by
  have h1 := h.1
  have h2 := h.2.size
  rw [cutX_size hb] at h1 h2
  exact ⟨h1, h2⟩
theorem OwnX.of_own {w0 w : World} {e : TypeId} {sz n : Nat} {v : Value} {xs : List Value} (h : Own w0 w e sz v n xs) : OwnX w0.heap.size w e sz v n xs := ⟨h.1, h.2.size⟩
theorem OwnX.keep {base : Nat} {w w' : World} {e : TypeId} {sz n : Nat} {v : Value} {xs : List Value} {S : Nat → Prop} (h : OwnX base w e sz v n xs) (hk : Keep S w w') (hv : ∀ b, v.ownBlock = some b → S b) : OwnX base w' e sz v n xs := by
  refine ⟨⟨h.1.1, ?_⟩, Nat.le_trans h.2 hk.size⟩
  rcases h.1.2 with h' | ⟨g, cap, cur, rfl, hg, hh, r⟩
  · exact .inl h'
  · exact .inr ⟨g, cap, cur, rfl, hg, (hk.block g (lt_of_block hh) (hv g rfl)).trans hh, r⟩
theorem OwnX.lt {base : Nat} {w : World} {e : TypeId} {sz n : Nat} {v : Value} {xs : List Value} (h : OwnX base w e sz v n xs) : ∀ b, v.ownBlock = some b → base ≤ b ∧ b < w.heap.size := fun b hb => h.1.lt b hb
theorem OwnX.neT {base : Nat} {w : World} {e : TypeId} {sz n b : Nat} {v : Value} {xs : List Value} (h : OwnX base w e sz v n xs) (hb : Sane e w b) : v.ownBlock ≠ some b := Own.neT h.own hb
/-- a row's block is of its kind -/
theorem OwnX.sane {base : Nat} {w : World} {e t : TypeId} {sz n : Nat} {v : Value} {xs : List Value} (h : OwnX base w e sz v n xs) (ht : e ≠ t) : ∀ b, v.ownBlock = some b → Sane t w b := by
  intro b hb
  rcases h.1.2 with ⟨rfl, _⟩ | ⟨g, cap, cur, rfl, _, hg, _⟩
  · cases hb
  · injection hb with hb
    subst hb
    exact sane_of hg ht
theorem OwnX.setO {base : Nat} {w : World} {e : TypeId} {sz n b o : Nat} {v : Value} {xs : List Value} (h : OwnX base w e sz v n xs) (hb : v.ownBlock ≠ some b) (u : Value) : OwnX base (w.setCell ⟨b, o, none⟩ u) e sz v n xs :=
  ⟨ownsRow_setCell_other h.1 (a := ⟨b, o, none⟩) hb u, by simpa using h.2⟩
theorem OwnX.alloc {base : Nat} {w : World} {e : TypeId} {sz n : Nat} {v : Value} {xs : List Value} (h : OwnX base w e sz v n xs) (o : Obj) : OwnX base (w.alloc o) e sz v n xs := ⟨h.1.alloc o, by have := h.2; simp; omega⟩
theorem OwnX.toOwn {base : Nat} {w0 w : World} {e : TypeId} {sz n : Nat} {v : Value} {xs : List Value} (h : OwnX base w e sz v n xs) (hb : Below w0.heap.size w0 w) (hle : w0.heap.size ≤ base) : Own w0 w e sz v n xs := by
  refine ⟨⟨h.1.1, ?_⟩, hb⟩
  rcases h.1.2 with h' | ⟨g, cap, cur, e, hg, r⟩
  · exact .inl h'
  · exact .inr ⟨g, cap, cur, e, Nat.le_trans hle hg, r⟩

def OutB (w0 w : World) (v : Value) (l : List UInt8) : Prop := Own w0 w 5 1 v l.length (bv l)
theorem OutB.own {w0 w : World} {v : Value} {l : List UInt8} (h : OutB w0 w v l) : Below w0.heap.size w0 w := h.2
theorem OutB.slice {w0 w : World} {v : Value} {l : List UInt8} (h : OutB w0 w v l) : ∃ A c, v = .slice A l.length c ∧ l.length ≤ c := Own.slice h
theorem OutB.below {w0 w w' : World} {v : Value} {l : List UInt8} (h : OutB w0 w v l) (hb : Below w.heap.size w w') : OutB w0 w' v l := Own.below h hb
theorem OutB.alloc {w0 w : World} {v : Value} {l : List UInt8} (h : OutB w0 w v l) (o : Obj) : OutB w0 (w.alloc o) v l := Own.alloc h o
theorem OutB.drew {w0 w : World} {v : Value} {l : List UInt8} (h : OutB w0 w v l) : OutB w0 w.drew v l := Own.drew h
theorem OutB.empty {w0 w : World} (h : Below w0.heap.size w0 w) : OutB w0 (w.alloc (.cells #[] 5)) (.slice (some ⟨w.heap.size, 0, none⟩) 0 0) [] := Own.lit h _ 1 0 #[] (by simp [maxLen]) rfl
theorem run_outB_str {w0 w : World} {v : Value} {l : List UInt8} (own : OutB w0 w v l) (ty : TypeId) (s : ByteArray) (hb : l.length + s.size ≤ 100000000000) :
    ∃ v' w', (Builtin.append_ #[40, 9] ty #[v, .string s]).run Tryd.prog w = .ok v' w' ∧ OutB w0 w' v' (l ++ s.data.toList) ∧ Grew v v' w w' := by
  obtain ⟨i, z, hi, hz, hs, hbt, hzs⟩ := u8T.info
  have hzz : z = .int .u8 0 := by
    have h0 : (Tryd.prog.info? 5).map (fun i => i.zero) = some (some (.int .u8 0)) := by kernel_rfl
    rw [hi] at h0
    simpa [hz] using h0
  subst hzz
  obtain ⟨v', w', hr, h2, h3, h4⟩ := Lib.run_append_own_string (P := Tryd.prog) w w0.heap.size 40 9 ty 5 i u8T.under Tryd.underlying9 hi hz hs hbt v l.length (bv l) own.1 s (by simp only [maxLen]; omega) (by omega) own.2.size
  refine ⟨v', w', hr, ?_, ⟨h3.os, h3.tape, h3.output, h3.size, fun k hk hne => h3.block k hk (fun e => hne e.symm)⟩, ?_⟩
  · have := Own.grown own h2 h3
    unfold OutB
    rw [List.length_append, bv_append, size_list]
    exact this
  · rcases own.1.2 with ⟨rfl, h0⟩ | ⟨g, cap, cur, rfl, _, hg, hnc, hcm, hcs, htake⟩
    · by_cases hm : s.size = 0
      · have := h4.2 ⟨rfl, hm⟩
        subst this
        exact .inl rfl
      · have hr2 := run_append_nil_string (P := Tryd.prog) w 40 9 ty 5 i (.int .u8 0) u8T.under Tryd.underlying9 hi hz s (by omega) (by omega) (by rw [hbt]; omega)
        have := hr.symm.trans hr2
        injection this with e1 _
        subst e1
        exact .inr ⟨_, rfl, Nat.le_refl _⟩
    · have hcs' : cur.size = cap := by simpa using hcs
      by_cases hroom : l.length + s.size ≤ cap
      · have hr2 := Lib.run_append_room_string (P := Tryd.prog) w 40 9 ty 5 i u8T.under Tryd.underlying9 hi hs g l.length cap cur hg s hroom (by omega)
        have := hr.symm.trans hr2
        injection this with e1 _
        subst e1
        exact .inl rfl
      · have holds : ∀ j u, (bv l)[j]? = some u → w.cell? ((⟨g, 0, none⟩ : Addr).add j) = some u := own.1.cells (g := g) rfl
        have hr2 := Lib.run_append_grow_string (P := Tryd.prog) w 40 9 ty 5 i (.int .u8 0) u8T.under Tryd.underlying9 hi hz ⟨g, 0, none⟩ l.length cap (bv l) (by rw [hs, bv_length]; omega) holds s (by omega) (by omega) (by rw [hbt]; exact growslice_fits (by omega) (by omega))
        have := hr.symm.trans hr2
        injection this with e1 _
        subst e1
        exact .inr ⟨_, rfl, Nat.le_refl _⟩
theorem run_outB_some {w0 w : World} {v : Value} {l : List UInt8} (own : OutB w0 w v l) (ty : TypeId) (A : Option Addr) (m c : Nat) (news : List UInt8) (rd : Rd w 1 A m (bv news)) (hb : l.length + m ≤ 100000000000) :
    ∃ v' w', (Builtin.append_ #[40, 40] ty #[v, .slice A m c]).run Tryd.prog w = .ok v' w' ∧ OutB w0 w' v' (l ++ news) ∧ Grew v v' w w' := by
  have hm : news.length = m := by have := rd.1; rw [bv_length] at this; omega
  obtain ⟨v', w', hr, h2, h3⟩ := run_appG (P := Tryd.prog) 40 ty 5 1 1 u8T v l.length (bv l) own A m c (bv news) rd (bv_one _) (by simp only [maxLen]; omega) (by omega)
  refine ⟨v', w', hr, ?_, h3⟩
  unfold OutB
  rw [List.length_append, bv_append, hm]
  exact h2
/-- a row of one byte apart from the row that is gathered -/
def Lies (w : World) (u : Value) (g : Nat) (c : UInt8) : Prop := w.heap[g]? = some (.cells #[.int .u8 (c.toNat : Int)] 5 (0, 0)) ∧ u.ownBlock ≠ some g
theorem Lies.new {w0 w : World} {u : Value} {l : List UInt8} (o : OutB w0 w u l) (c : UInt8) : Lies (w.alloc (.cells #[.int .u8 (c.toNat : Int)] 5)) u w.heap.size c := by
  refine ⟨heap_alloc_new _ _, fun e => ?_⟩
  have := (o.1.lt _ e).2
  omega
theorem Lies.grew {w w' : World} {u u' : Value} {g : Nat} {c : UInt8} (h : Lies w u g c) (k : Grew u u' w w') : Lies w' u' g c := by
  have hlt := lt_of_block h.1
  refine ⟨(k.keep.block g hlt h.2).trans h.1, fun e => ?_⟩
  rcases k.lies with h1 | ⟨b, h1, h2⟩
  · exact h.2 (h1.symm.trans e)
  · rw [h1] at e; injection e with e; omega
theorem Lies.below {w w' : World} {u : Value} {g : Nat} {c : UInt8} (h : Lies w u g c) (k : Below w.heap.size w w') : Lies w' u g c := h.grew (Grew.of_below k)
theorem Lies.rd {w : World} {u : Value} {g : Nat} {c : UInt8} (h : Lies w u g c) : Rd w 1 (some ⟨g, 0, none⟩) 1 (bv [c]) :=
  ⟨rfl, fun _ => ⟨g, 0, rfl, fun j x hx => by
    have hh := h.1
    rcases j with _ | j
    · simp only [bv, List.map_cons, List.map_nil, List.getElem?_cons_zero, Option.some.injEq] at hx
      subst hx
      simp [World.cell?, hh]
    · simp [bv] at hx⟩⟩
/-- from world to world along a chain of steps on the row -/
theorem Grew.link {v u u' : Value} {w w1 w2 w3 : World} (h : Grew v u w w1) (b : Below w1.heap.size w1 w2) (k : Grew u u' w2 w3) : Grew v u' w w3 := h.trans ((Grew.of_below b).trans k)
theorem Grew.keepB {w0 w w' : World} {v v' : Value} {l : List UInt8} (h : Grew v v' w w') (own : OutB w0 w v l) : KeepT 5 w w' := Grew.keepT h own
section
variable {w0 w : World} {v : Value} {l : List UInt8} {o : Oper} {a : Act} {Q : Exit → Act → World → Prop}
theorem wp_outB_str {K : Act → World → Prop} (sl x : Operand) (ho : o.op = .call { callee := .builtin .append, args := #[sl, x], argTypes := #[40, 9] }) (hs : a.eval sl = v) (own : OutB w0 w v l) (s : ByteArray) (hx : a.eval x = .string s) (hb : l.length + s.size ≤ 100000000000)
    (h : ∀ v' w', OutB w0 w' v' (l ++ s.data.toList) → Grew v v' w w' → K (a.put o.dst v') w') : o.wp Tryd.prog a w K Q := by
  obtain ⟨v', w', hr, h2, h3⟩ := run_outB_str own o.type s hb
  unfold Oper.wp execOp
  simp only [ho, resolve, invoke, builtin, Sem.run_bind, Sem.run_pure, Result.andThen_ok, List.map_toArray, List.map_cons, List.map_nil, hs, hx, hr]
  exact h v' w' h2 h3
theorem wp_outB_some {K : Act → World → Prop} (sl x : Operand) (ho : o.op = .call { callee := .builtin .append, args := #[sl, x], argTypes := #[40, 40] }) (hs : a.eval sl = v) (own : OutB w0 w v l) (A : Option Addr) (m c : Nat) (news : List UInt8) (hx : a.eval x = .slice A m c) (rd : Rd w 1 A m (bv news)) (hb : l.length + m ≤ 100000000000)
    (h : ∀ v' w', OutB w0 w' v' (l ++ news) → Grew v v' w w' → K (a.put o.dst v') w') : o.wp Tryd.prog a w K Q := by
  obtain ⟨v', w', hr, h2, h3⟩ := run_outB_some own o.type A m c news rd hb
  unfold Oper.wp execOp
  simp only [ho, resolve, invoke, builtin, Sem.run_bind, Sem.run_pure, Result.andThen_ok, List.map_toArray, List.map_cons, List.map_nil, hs, hx, hr]
  exact h v' w' h2 h3
/-- in a plain region -/
theorem wpList_outB_str {ops : Array Oper} {rest : List Oper} (hgd : o.guard = none) (sl x : Operand) (ho : o.op = .call { callee := .builtin .append, args := #[sl, x], argTypes := #[40, 9] }) (hs : a.eval sl = v) (own : OutB w0 w v l) (s : ByteArray) (hx : a.eval x = .string s) (hb : l.length + s.size ≤ 100000000000)
    (h : ∀ v' w', OutB w0 w' v' (l ++ s.data.toList) → Grew v v' w w' → wpList Tryd.prog ops Q rest (a.put o.dst v') w') : wpList Tryd.prog ops Q (o :: rest) a w :=
  wpList_plain hgd fun _ hK => wp_outB_str sl x ho hs own s hx hb fun v' w' h2 h3 => hK _ _ (h v' w' h2 h3)
theorem wpList_outB_some {ops : Array Oper} {rest : List Oper} (hgd : o.guard = none) (sl x : Operand) (ho : o.op = .call { callee := .builtin .append, args := #[sl, x], argTypes := #[40, 40] }) (hs : a.eval sl = v) (own : OutB w0 w v l) (A : Option Addr) (m c : Nat) (news : List UInt8) (hx : a.eval x = .slice A m c) (rd : Rd w 1 A m (bv news)) (hb : l.length + m ≤ 100000000000)
    (h : ∀ v' w', OutB w0 w' v' (l ++ news) → Grew v v' w w' → wpList Tryd.prog ops Q rest (a.put o.dst v') w') : wpList Tryd.prog ops Q (o :: rest) a w :=
  wpList_plain hgd fun _ hK => wp_outB_some sl x ho hs own A m c news hx rd hb fun v' w' h2 h3 => hK _ _ (h v' w' h2 h3)
/-- at a step of a region that draws -/
theorem step_outB_str {ops : Array Oper} {K : Act → World → Prop} {E : Prop} (hgd : o.guard = none) (sl x : Operand) (ho : o.op = .call { callee := .builtin .append, args := #[sl, x], argTypes := #[40, 9] }) (hs : a.eval sl = v) (own : OutB w0 w v l) (s : ByteArray) (hx : a.eval x = .string s) (hb : l.length + s.size ≤ 100000000000)
    (h : ∀ v' w', OutB w0 w' v' (l ++ s.data.toList) → Grew v v' w w' → K (a.put o.dst v') w') : if Region.wanted o (yielded ops a.tmps) = true then Oper.wp Tryd.prog o a w K Q else E := by
  have hw : Region.wanted o (yielded ops a.tmps) = true := by simp [Region.wanted, hgd]
  rw [if_pos hw]
  exact wp_outB_str sl x ho hs own s hx hb h
theorem step_outB_some {ops : Array Oper} {K : Act → World → Prop} {E : Prop} (hgd : o.guard = none) (sl x : Operand) (ho : o.op = .call { callee := .builtin .append, args := #[sl, x], argTypes := #[40, 40] }) (hs : a.eval sl = v) (own : OutB w0 w v l) (A : Option Addr) (m c : Nat) (news : List UInt8) (hx : a.eval x = .slice A m c) (rd : Rd w 1 A m (bv news)) (hb : l.length + m ≤ 100000000000)
    (h : ∀ v' w', OutB w0 w' v' (l ++ news) → Grew v v' w w' → K (a.put o.dst v') w') : if Region.wanted o (yielded ops a.tmps) = true then Oper.wp Tryd.prog o a w K Q else E := by
  have hw : Region.wanted o (yielded ops a.tmps) = true := by simp [Region.wanted, hgd]
  rw [if_pos hw]
  exact wp_outB_some sl x ho hs own A m c news hx rd hb h
end

def signB (k : Int) : ByteArray := if k = 3 then ⟨#[43]⟩ else if k = 4 then ⟨#[45]⟩ else if k = 5 then ⟨#[42]⟩ else if k = 6 then ⟨#[60]⟩ else if k = 7 then ⟨#[61, 61]⟩ else ⟨#[97, 110, 100]⟩
def signK (k : Int) : List UInt8 := (signB k).data.toList
theorem signK_len (k : Int) : (signK k).length ≤ 3 := by
  unfold signK signB
  repeat' split
  all_goals decide
def joinT (k : Int) (a b : List UInt8) : List UInt8 := if k = 8 then [40, 110, 111, 116, 32] ++ a ++ [41] else [40] ++ a ++ ([32] ++ signK k ++ [32]) ++ b ++ [41]
mutual
def txtT : Tm → List UInt8
  | .mk k n s kids => if k = 1 then Lib.itoa n else if k = 2 then s.data.toList else joinT k ((txtTs kids)[0]?.getD []) ((txtTs kids)[1]?.getD [])
def txtTs : List Tm → List (List UInt8)
  | [] => []
  | t :: r => txtT t :: txtTs r
end
theorem txtT_num {n : Int} {s : ByteArray} {kids : List Tm} : txtT (.mk 1 n s kids) = Lib.itoa n := by rw [txtT, if_pos rfl]
theorem txtT_var {n : Int} {s : ByteArray} {kids : List Tm} : txtT (.mk 2 n s kids) = s.data.toList := by rw [txtT, if_neg (by decide), if_pos rfl]
theorem txtT_one {n : Int} {s : ByteArray} {x : Tm} : txtT (.mk 8 n s [x]) = [40, 110, 111, 116, 32] ++ txtT x ++ [41] := by
  simp [txtT, txtTs, joinT]
theorem txtT_two {k n : Int} {s : ByteArray} {x y : Tm} (h1 : k ≠ 1) (h2 : k ≠ 2) (h8 : k ≠ 8) : txtT (.mk k n s [x, y]) = [40] ++ txtT x ++ ([32] ++ signK k ++ [32]) ++ txtT y ++ [41] := by
  rw [txtT, if_neg h1, if_neg h2, txtTs, txtTs, txtTs, joinT, if_neg h8]; rfl
theorem name_len {l : List UInt8} (h : isNameL l = true) : l.length ≤ 12 := by
  rcases Nat.lt_or_ge 12 l.length with h1 | h1
  · have := not_name _ (word_long l h1)
    rw [this] at h; cases h
  · exact h1
/-- a right term's text is short -/
theorem txt_len (r : Nat) : ∀ t, okT r t = true → (txtT t).length + 8 ≤ 30 * 2 ^ r := by
  induction r with
  | zero =>
    intro t h
    obtain ⟨k, n, s, kids⟩ := t
    by_cases h1 : k = 1
    · subst h1
      rw [okT_num, Bool.and_eq_true, Bool.and_eq_true] at h
      rw [txtT_num]
      have hb := h.1.1
      have := Lib.itoa_length_le n (by simp [inB] at hb; omega) (by simp [inB] at hb; omega)
      omega
    by_cases h2 : k = 2
    · subst h2
      rw [okT_var, Bool.and_eq_true, Bool.and_eq_true] at h
      rw [txtT_var]
      have := name_len h.1.2
      omega
    rw [okT_zero (by simpa using h1) (by simpa using h2)] at h
    cases h
  | succ r ih =>
    intro t h
    obtain ⟨k, n, s, kids⟩ := t
    have hp : 2 ^ (r + 1) = 2 ^ r + 2 ^ r := by rw [Nat.pow_succ]; omega
    have hpos := Nat.two_pow_pos r
    by_cases h1 : k = 1
    · subst h1
      rw [okT_num, Bool.and_eq_true, Bool.and_eq_true] at h
      rw [txtT_num]
      have hb := h.1.1
      have := Lib.itoa_length_le n (by simp [inB] at hb; omega) (by simp [inB] at hb; omega)
      omega
    by_cases h2 : k = 2
    · subst h2
      rw [okT_var, Bool.and_eq_true, Bool.and_eq_true] at h
      rw [txtT_var]
      have := name_len h.1.2
      omega
    obtain ⟨r', he, ⟨rfl, x, rfl, hx⟩ | ⟨hk, x, y, rfl, hx, hy⟩⟩ := okT_kids h1 h2 h
    · have : r' = r := by omega
      subst this
      have := ih x hx
      rw [txtT_one]
      simp only [List.length_append, List.length_cons, List.length_nil]; omega
    · have : r' = r := by omega
      subst this
      have := ih x hx
      have := ih y hy
      have := signK_len k
      rw [txtT_two h1 h2 (by omega)]
      simp only [List.length_append, List.length_cons, List.length_nil]; omega
def txtR (t : Tm) : List UInt8 := if okT 6 t = true then txtT t else []
theorem txtR_yes {t : Tm} (h : okT 6 t = true) : txtR t = txtT t := by simp [txtR, h]
theorem txtR_no {t : Tm} (h : okT 6 t = false) : txtR t = [] := by simp [txtR, h]
/-- the number of a right leaf is within bounds -/
theorem okT_num_bd {r : Nat} {n : Int} {s : ByteArray} {kids : List Tm} (h : okT r (.mk 1 n s kids) = true) : 0 ≤ n ∧ n ≤ 1000000000 := by
  rw [okT_num, Bool.and_eq_true, Bool.and_eq_true] at h
  have hb := h.1.1
  simp [inB] at hb
  exact hb

theorem below_then2 {w0 w w' : World} (h : Below w0.heap.size w0 w) (k : Below w.heap.size w w') : Below w0.heap.size w0 w' := h.trans (k.mono h.size)
theorem kinds_cases {k : Int} (hk : k = 3 ∨ k = 4 ∨ k = 5 ∨ k = 6 ∨ k = 7 ∨ k = 9) : k ≠ 1 ∧ k ≠ 2 ∧ k ≠ 8 := by omega
theorem spec_l03Sign (k : Int) (hk : k = 3 ∨ k = 4 ∨ k = 5 ∨ k = 6 ∨ k = 7 ∨ k = 9) (w : World) : Calls Tryd.prog 129 #[.int .i64 k] w fun e w' => e = .returned (.string (signB k)) ∧ Below w.heap.size w w' := by
  rcases hk with rfl | rfl | rfl | rfl | rfl | rfl
  all_goals
    go_enter Tryd.func129, Tryd.ntmps129
    go_wp2_with fail
    go_ret
    exact ⟨rfl, (by repeat' (first | exact Below.refl _ _ | exact Nat.le_refl _ | (refine Below.alloc ?_ ?_ _) | (refine Below.setCell ?_ ?_ _) | (refine Below.drew ?_) | (refine below_drewN ?_ _) | assumption | (simp; done) | (simp; omega)))⟩
abbrev SyC (t : Tm) : Prop := ∀ (room : Nat) (k n : Int) (s : ByteArray) (A : Option Addr) (m c : Nat) (w0 w : World) (v : Value) (acc : List UInt8), okT room t = true → TmIs AnyB w0 [.int .i64 k, .int .i64 n, .string s, .slice A m c] t → OutB w0 w v acc → acc.length + 30 * 2 ^ room ≤ 50000000000 → room ≤ 6 →
  Calls Tryd.prog 139 #[v, .agg #[.int .i64 k, .int .i64 n, .string s, .slice A m c]] w fun e w' => ∃ v', e = .returned v' ∧ OutB w0 w' v' (acc ++ txtT t) ∧ Grew v v' w w'
set_option maxHeartbeats 800000 in
theorem spec_say_num (room : Nat) (n : Int) (s : ByteArray) (A : Option Addr) (m c : Nat) (kids : List Tm) (w0 w : World) (v : Value) (acc : List UInt8) (hok : okT room (.mk 1 n s kids) = true) (own : OutB w0 w v acc) (hb : acc.length ≤ 60000000000) :
    Calls Tryd.prog 139 #[v, .agg #[.int .i64 1, .int .i64 n, .string s, .slice A m c]] w fun e w' => ∃ v', e = .returned v' ∧ OutB w0 w' v' (acc ++ txtT (.mk 1 n s kids)) ∧ Grew v v' w w' := by
  rw [txtT_num]
  have OW := Lib.hid own
  obtain ⟨h0, h1⟩ := okT_num_bd hok
  have hl := Lib.itoa_length_le n (by omega) (by omega)
  obtain ⟨A0, c0, rfl, _⟩ := own.slice
  clear own hok
  go_enter Tryd.func139, Tryd.ntmps139
  go_wp2_with fail
  refine (spec_Decimal n (by omega) (by omega) _).mono ?_
  rintro e w1 ⟨rfl, b1⟩
  have O1 := Lib.hid ((OW.out.alloc (.cells #[.int .i64 1, .int .i64 n, .string s, .slice A m c] 24)).below b1)
  have K1 : Hid (Below w.heap.size w w1) := Lib.hid (Below.trans (by repeat' (first | exact Below.refl _ _ | exact Nat.le_refl _ | (refine Below.alloc ?_ ?_ _) | (refine Below.setCell ?_ ?_ _) | (refine Below.drew ?_) | (refine below_drewN ?_ _) | assumption | (simp; done) | (simp; omega))) (b1.mono (by simp)))
  clear b1
  generalize hL : Lib.itoa n = L at *
  have HL := Lib.hid hL
  clear hL
  go_wp2_with (at_builtin; refine wpList_outB_str rfl _ _ rfl rfl O1.out ⟨L.toArray⟩ rfl (by rw [str_size]; omega) ?_; intro v2 w2 own2 kp2)
  go_ret
  rw [HL.out]
  exact ⟨_, rfl, own2, (Grew.of_below K1.out).trans kp2⟩
set_option maxHeartbeats 800000 in
theorem spec_say_var (room : Nat) (n : Int) (s : ByteArray) (A : Option Addr) (m c : Nat) (kids : List Tm) (w0 w : World) (v : Value) (acc : List UInt8) (hok : okT room (.mk 2 n s kids) = true) (own : OutB w0 w v acc) (hb : acc.length ≤ 60000000000) :
    Calls Tryd.prog 139 #[v, .agg #[.int .i64 2, .int .i64 n, .string s, .slice A m c]] w fun e w' => ∃ v', e = .returned v' ∧ OutB w0 w' v' (acc ++ txtT (.mk 2 n s kids)) ∧ Grew v v' w w' := by
  rw [txtT_var]
  have OW := Lib.hid own
  have hl : s.size ≤ 12 := by
    rw [okT_var, Bool.and_eq_true, Bool.and_eq_true] at hok
    have := name_len hok.1.2
    simpa using this
  obtain ⟨A0, c0, rfl, _⟩ := own.slice
  clear own hok
  go_enter Tryd.func139, Tryd.ntmps139
  go_wp2_with (at_builtin; refine wpList_outB_str rfl _ _ rfl rfl (OW.out.alloc _) s rfl (by omega) ?_; intro v2 w2 own2 kp2)
  go_ret
  exact ⟨_, rfl, own2, (Grew.of_below (by repeat' (first | exact Below.refl _ _ | exact Nat.le_refl _ | (refine Below.alloc ?_ ?_ _) | (refine Below.setCell ?_ ?_ _) | (refine Below.drew ?_) | (refine below_drewN ?_ _) | assumption | (simp; done) | (simp; omega)))).trans kp2⟩
set_option maxHeartbeats 1600000 in
set_option maxRecDepth 100000 in
theorem spec_say_not (r : Nat) (hr : r ≤ 5) (n : Int) (s : ByteArray) (A : Option Addr) (c : Nat) (x : Tm) (ih : SyC x) (hx : okT r x = true) (w0 w : World) (v : Value) (acc : List UInt8) (row : TmRow AnyB w0 A [x]) (own : OutB w0 w v acc) (hb : acc.length + 30 * 2 ^ (r + 1) ≤ 50000000000) :
    Calls Tryd.prog 139 #[v, .agg #[.int .i64 8, .int .i64 n, .string s, .slice A 1 c]] w fun e w' => ∃ v', e = .returned v' ∧ OutB w0 w' v' (acc ++ txtT (.mk 8 n s [x])) ∧ Grew v v' w w' := by
  obtain ⟨F, hF⟩ : ∃ F, acc ++ txtT (.mk 8 n s [x]) = F := ⟨_, rfl⟩
  have HF : Hid (F = acc ++ [40, 110, 111, 116, 32] ++ txtT x ++ [41]) := Lib.hid (by rw [← hF, txtT_one]; simp)
  rw [hF]
  clear hF
  have hl := txt_len r x hx
  have hp : 2 ^ (r + 1) = 2 ^ r + 2 ^ r := by rw [Nat.pow_succ]; omega
  have hpos := Nat.two_pow_pos r
  have HX := Lib.hid hx
  rw [hp] at hb
  clear hp hx
  have OW0 := Lib.hid own
  have R0 := rd_term row (k := 0) (by simp)
  obtain ⟨b, off, k0, n0, s0, A0, m0, c0, rfl, _, e0, e1, e2, e3, t0⟩ := R0
  have T0 : Hid (TmIs AnyB w0 [.int .i64 k0, .int .i64 n0, .string s0, .slice A0 m0 c0] x) := Lib.hid t0
  have IH0 := Lib.hid ih
  simp only [Nat.zero_mul, Nat.add_zero] at e0 e1 e2 e3
  obtain ⟨Av, cv, rfl, _⟩ := own.slice
  clear own row t0 ih
  go_enter Tryd.func139, Tryd.ntmps139
  go_upto_region 7 with fail
  have hg : w.heap.size < (w.alloc (.cells #[.int .i64 8, .int .i64 n, .string s, .slice (some ⟨b, off, none⟩) 1 c] 24)).heap.size := by simp
  have OW : Hid (OutB w0 (w.alloc (.cells #[.int .i64 8, .int .i64 n, .string s, .slice (some ⟨b, off, none⟩) 1 c] 24)) (.slice Av acc.length cv) acc) := Lib.hid (OW0.out.alloc _)
  have K0 : Hid (Below w.heap.size w (w.alloc (.cells #[.int .i64 8, .int .i64 n, .string s, .slice (some ⟨b, off, none⟩) 1 c] 24))) := Lib.hid (by repeat' (first | exact Below.refl _ _ | exact Nat.le_refl _ | (refine Below.alloc ?_ ?_ _) | (refine Below.setCell ?_ ?_ _) | (refine Below.drew ?_) | (refine below_drewN ?_ _) | assumption | (simp; done) | (simp; omega)))
  have sn : Sane 5 (w.alloc (.cells #[.int .i64 8, .int .i64 n, .string s, .slice (some ⟨b, off, none⟩) 1 c] 24)) w.heap.size := sane_new (by decide)
  obtain ⟨x0, x1, x2, x3⟩ : Box4 (w.alloc (.cells #[.int .i64 8, .int .i64 n, .string s, .slice (some ⟨b, off, none⟩) 1 c] 24)) w.heap.size (vt 8 n s (some ⟨b, off, none⟩) 1 c) := Box4.lit rfl
  simp only [vt] at x0 x1 x2 x3
  generalize w.alloc (.cells #[.int .i64 8, .int .i64 n, .string s, .slice (some ⟨b, off, none⟩) 1 c] 24) = w1 at *
  have oX := OW.out
  have gr := Grew.refl (.slice Av acc.length cv) w1
  have KS : Hid (∀ w', KeepT 5 w1 w' → Below w0.heap.size w0 w' → KeepT 5 w1 w' ∧ Below w0.heap.size w0 w' ∧ w'.cell? ⟨w.heap.size, 3, none⟩ = some (.slice (some ⟨b, off, none⟩) 1 c) ∧ w'.cell? ⟨b, off, none⟩ = some (.int .i64 k0) ∧ w'.cell? ⟨b, off + 1, none⟩ = some (.int .i64 n0) ∧ w'.cell? ⟨b, off + 2, none⟩ = some (.string s0) ∧ w'.cell? ⟨b, off + 3, none⟩ = some (.slice A0 m0 c0)) := Lib.hid (fun w' hk hb => ⟨hk, hb, KeepT.cellT hk sn x3, cell_keep hb e0, cell_keep hb e1, cell_keep hb e2, cell_keep hb e3⟩)
  go_region_held3 (fun w' => KeepT 5 w1 w' ∧ Below w0.heap.size w0 w' ∧ w'.cell? ⟨w.heap.size, 3, none⟩ = some (.slice (some ⟨b, off, none⟩) 1 c) ∧ w'.cell? ⟨b, off, none⟩ = some (.int .i64 k0) ∧ w'.cell? ⟨b, off + 1, none⟩ = some (.int .i64 n0) ∧ w'.cell? ⟨b, off + 2, none⟩ = some (.string s0) ∧ w'.cell? ⟨b, off + 3, none⟩ = some (.slice A0 m0 c0))
    (first | exact KS.out _ (KeepT.trans' (Grew.keepB gr OW.out) (KeepT.of_below' (by repeat' (first | exact Below.refl _ _ | exact Nat.le_refl _ | (refine Below.alloc ?_ ?_ _) | (refine Below.setCell ?_ ?_ _) | (refine Below.drew ?_) | (refine below_drewN ?_ _) | assumption | (simp; done) | (simp; omega))))) (below_then2 oX.own (by repeat' (first | exact Below.refl _ _ | exact Nat.le_refl _ | (refine Below.alloc ?_ ?_ _) | (refine Below.setCell ?_ ?_ _) | (refine Below.drew ?_) | (refine below_drewN ?_ _) | assumption | (simp; done) | (simp; omega)))) | fail)
    (first
      | (refine step_outB_str (by rfl) _ _ (by rfl) (by rfl) (oX.below (by repeat' (first | exact Below.refl _ _ | exact Nat.le_refl _ | (refine Below.alloc ?_ ?_ _) | (refine Below.setCell ?_ ?_ _) | (refine Below.drew ?_) | (refine below_drewN ?_ _) | assumption | (simp; done) | (simp; omega)))) ⟨#[40, 110, 111, 116, 32]⟩ (by rfl) (by simp only [ByteArray.size, List.size_toArray, List.length_cons, List.length_nil]; omega) ?_; intro vY wY oY kY; have gr := Grew.link gr (by repeat' (first | exact Below.refl _ _ | exact Nat.le_refl _ | (refine Below.alloc ?_ ?_ _) | (refine Below.setCell ?_ ?_ _) | (refine Below.drew ?_) | (refine below_drewN ?_ _) | assumption | (simp; done) | (simp; omega))) kY; (try have li := (by first | exact Lies.grew li kY | exact Lies.grew (Lies.below li (Below.refl _ _).drew) kY | exact Lies.grew (Lies.new oX 41) kY | exact Lies.grew (Lies.below (Lies.new oX 41) (Below.refl _ _).drew) kY)); have oX := oY; clear oY kY)
      | (go_at_call 139; refine (IH0.out r _ _ _ _ _ _ w0 _ _ _ HX.out T0.out (oX.below (by repeat' (first | exact Below.refl _ _ | exact Nat.le_refl _ | (refine Below.alloc ?_ ?_ _) | (refine Below.setCell ?_ ?_ _) | (refine Below.drew ?_) | (refine below_drewN ?_ _) | assumption | (simp; done) | (simp; omega)))) (by (try simp only [List.length_append, List.length_cons, List.length_nil]); omega) (by omega)).mono ?_; rintro e wY ⟨vY, rfl, oY, kY⟩; have gr := Grew.link gr (by repeat' (first | exact Below.refl _ _ | exact Nat.le_refl _ | (refine Below.alloc ?_ ?_ _) | (refine Below.setCell ?_ ?_ _) | (refine Below.drew ?_) | (refine below_drewN ?_ _) | assumption | (simp; done) | (simp; omega))) kY; (try have li := (by first | exact Lies.grew li kY | exact Lies.grew (Lies.below li (Below.refl _ _).drew) kY | exact Lies.grew (Lies.new oX 41) kY | exact Lies.grew (Lies.below (Lies.new oX 41) (Below.refl _ _).drew) kY)); have oX := oY; clear oY kY)
      | (refine step_outB_some (by rfl) _ _ (by rfl) (by rfl) (oX.below (by repeat' (first | exact Below.refl _ _ | exact Nat.le_refl _ | (refine Below.alloc ?_ ?_ _) | (refine Below.setCell ?_ ?_ _) | (refine Below.drew ?_) | (refine below_drewN ?_ _) | assumption | (simp; done) | (simp; omega)))) _ 1 1 [41] (by rfl) (by first | exact (Lies.new oX 41).rd | exact (Lies.new oX 41).rd.drew | exact li.rd | exact li.rd.drew) (by (try simp only [List.length_append, List.length_cons, List.length_nil]); omega) ?_; intro vY wY oY kY; have gr := Grew.link gr (by repeat' (first | exact Below.refl _ _ | exact Nat.le_refl _ | (refine Below.alloc ?_ ?_ _) | (refine Below.setCell ?_ ?_ _) | (refine Below.drew ?_) | (refine below_drewN ?_ _) | assumption | (simp; done) | (simp; omega))) kY; (try have li := (by first | exact Lies.grew li kY | exact Lies.grew (Lies.below li (Below.refl _ _).drew) kY | exact Lies.grew (Lies.new oX 41) kY | exact Lies.grew (Lies.below (Lies.new oX 41) (Below.refl _ _).drew) kY)); have oX := oY; clear oY kY)
      | fail)
  all_goals
   go_wp2_with fail
   go_ret
   refine ⟨_, rfl, ?_, (Grew.of_below K0.out).trans gr⟩
   rw [HF.out]
   exact oX
set_option maxHeartbeats 3200000 in
set_option maxRecDepth 100000 in
theorem spec_say_two (r : Nat) (hr : r ≤ 5) (k n : Int) (hk : k = 3 ∨ k = 4 ∨ k = 5 ∨ k = 6 ∨ k = 7 ∨ k = 9) (s : ByteArray) (A : Option Addr) (c : Nat) (x y : Tm) (ih : SyC x) (ih' : SyC y) (hx : okT r x = true) (hy : okT r y = true) (w0 w : World) (v : Value) (acc : List UInt8) (row : TmRow AnyB w0 A [x, y]) (own : OutB w0 w v acc) (hb : acc.length + 30 * 2 ^ (r + 1) ≤ 50000000000) :
    Calls Tryd.prog 139 #[v, .agg #[.int .i64 k, .int .i64 n, .string s, .slice A 2 c]] w fun e w' => ∃ v', e = .returned v' ∧ OutB w0 w' v' (acc ++ txtT (.mk k n s [x, y])) ∧ Grew v v' w w' := by
  obtain ⟨h1, h2, h8⟩ := kinds_cases hk
  obtain ⟨F, hF⟩ : ∃ F, acc ++ txtT (.mk k n s [x, y]) = F := ⟨_, rfl⟩
  have HF : Hid (F = acc ++ [40] ++ txtT x ++ ([32] ++ signK k ++ [32]) ++ txtT y ++ [41]) := Lib.hid (by rw [← hF, txtT_two h1 h2 h8]; simp)
  rw [hF]
  clear hF
  have hlx := txt_len r x hx
  have hly := txt_len r y hy
  have hsk := signK_len k
  have hp : 2 ^ (r + 1) = 2 ^ r + 2 ^ r := by rw [Nat.pow_succ]; omega
  have hpos := Nat.two_pow_pos r
  have HX := Lib.hid hx
  have HY := Lib.hid hy
  have HK := Lib.hid hk
  have q1 : (k == 1) = false := beq_eq_false_iff_ne.2 h1
  have q2 : (k == 2) = false := beq_eq_false_iff_ne.2 h2
  have q8 : (k == 8) = false := beq_eq_false_iff_ne.2 h8
  rw [hp] at hb
  clear hp hx hy hk h1 h2 h8
  have OW0 := Lib.hid own
  have R0 := rd_term row (k := 0) (by simp)
  obtain ⟨b, off, k0, n0, s0, A0, m0, c0, rfl, _, e0, e1, e2, e3, t0⟩ := R0
  have T0 : Hid (TmIs AnyB w0 [.int .i64 k0, .int .i64 n0, .string s0, .slice A0 m0 c0] x) := Lib.hid t0
  have IH0 := Lib.hid ih
  obtain ⟨b', off', k1, n1, s1, A1, m1, c1, eA, _, g0, g1, g2, g3, t1⟩ := rd_term row (k := 1) (by simp)
  injection eA with eA
  injection eA with eA1 eA2
  subst eA1 eA2
  have T1 : Hid (TmIs AnyB w0 [.int .i64 k1, .int .i64 n1, .string s1, .slice A1 m1 c1] y) := Lib.hid t1
  have IH1 := Lib.hid ih'
  simp only [Nat.one_mul, Nat.add_assoc, Nat.reduceAdd] at g0 g1 g2 g3
  simp only [Nat.zero_mul, Nat.add_zero] at e0 e1 e2 e3
  obtain ⟨Av, cv, rfl, _⟩ := own.slice
  clear own row t0 ih t1 ih'
  go_enter Tryd.func139, Tryd.ntmps139
  go_upto_region 8 with fail
  have hg : w.heap.size < (w.alloc (.cells #[.int .i64 k, .int .i64 n, .string s, .slice (some ⟨b, off, none⟩) 2 c] 24)).heap.size := by simp
  have OW : Hid (OutB w0 (w.alloc (.cells #[.int .i64 k, .int .i64 n, .string s, .slice (some ⟨b, off, none⟩) 2 c] 24)) (.slice Av acc.length cv) acc) := Lib.hid (OW0.out.alloc _)
  have K0 : Hid (Below w.heap.size w (w.alloc (.cells #[.int .i64 k, .int .i64 n, .string s, .slice (some ⟨b, off, none⟩) 2 c] 24))) := Lib.hid (by repeat' (first | exact Below.refl _ _ | exact Nat.le_refl _ | (refine Below.alloc ?_ ?_ _) | (refine Below.setCell ?_ ?_ _) | (refine Below.drew ?_) | (refine below_drewN ?_ _) | assumption | (simp; done) | (simp; omega)))
  have sn : Sane 5 (w.alloc (.cells #[.int .i64 k, .int .i64 n, .string s, .slice (some ⟨b, off, none⟩) 2 c] 24)) w.heap.size := sane_new (by decide)
  obtain ⟨x0, x1, x2, x3⟩ : Box4 (w.alloc (.cells #[.int .i64 k, .int .i64 n, .string s, .slice (some ⟨b, off, none⟩) 2 c] 24)) w.heap.size (vt k n s (some ⟨b, off, none⟩) 2 c) := Box4.lit rfl
  simp only [vt] at x0 x1 x2 x3
  generalize w.alloc (.cells #[.int .i64 k, .int .i64 n, .string s, .slice (some ⟨b, off, none⟩) 2 c] 24) = w1 at *
  have oX := OW.out
  have gr := Grew.refl (.slice Av acc.length cv) w1
  have KS : Hid (∀ w', KeepT 5 w1 w' → Below w0.heap.size w0 w' → KeepT 5 w1 w' ∧ Below w0.heap.size w0 w' ∧ w'.cell? ⟨w.heap.size, 3, none⟩ = some (.slice (some ⟨b, off, none⟩) 2 c) ∧ w'.cell? ⟨b, off, none⟩ = some (.int .i64 k0) ∧ w'.cell? ⟨b, off + 1, none⟩ = some (.int .i64 n0) ∧ w'.cell? ⟨b, off + 2, none⟩ = some (.string s0) ∧ w'.cell? ⟨b, off + 3, none⟩ = some (.slice A0 m0 c0)) := Lib.hid (fun w' hk hb => ⟨hk, hb, KeepT.cellT hk sn x3, cell_keep hb e0, cell_keep hb e1, cell_keep hb e2, cell_keep hb e3⟩)
  go_region_held3 (fun w' => KeepT 5 w1 w' ∧ Below w0.heap.size w0 w' ∧ w'.cell? ⟨w.heap.size, 3, none⟩ = some (.slice (some ⟨b, off, none⟩) 2 c) ∧ w'.cell? ⟨b, off, none⟩ = some (.int .i64 k0) ∧ w'.cell? ⟨b, off + 1, none⟩ = some (.int .i64 n0) ∧ w'.cell? ⟨b, off + 2, none⟩ = some (.string s0) ∧ w'.cell? ⟨b, off + 3, none⟩ = some (.slice A0 m0 c0))
    (first | exact KS.out _ (KeepT.trans' (Grew.keepB gr OW.out) (KeepT.of_below' (by repeat' (first | exact Below.refl _ _ | exact Nat.le_refl _ | (refine Below.alloc ?_ ?_ _) | (refine Below.setCell ?_ ?_ _) | (refine Below.drew ?_) | (refine below_drewN ?_ _) | assumption | (simp; done) | (simp; omega))))) (below_then2 oX.own (by repeat' (first | exact Below.refl _ _ | exact Nat.le_refl _ | (refine Below.alloc ?_ ?_ _) | (refine Below.setCell ?_ ?_ _) | (refine Below.drew ?_) | (refine below_drewN ?_ _) | assumption | (simp; done) | (simp; omega)))) | fail)
    (first
      | (refine step_outB_some (by rfl) _ _ (by rfl) (by rfl) (oX.below (by repeat' (first | exact Below.refl _ _ | exact Nat.le_refl _ | (refine Below.alloc ?_ ?_ _) | (refine Below.setCell ?_ ?_ _) | (refine Below.drew ?_) | (refine below_drewN ?_ _) | assumption | (simp; done) | (simp; omega)))) _ 1 1 [40] (by rfl) (by first | exact (Lies.new oX 40).rd | exact (Lies.new oX 40).rd.drew | exact li.rd | exact li.rd.drew) (by (try simp only [List.length_append, List.length_cons, List.length_nil]); omega) ?_; intro vY wY oY kY; have gr := Grew.link gr (by repeat' (first | exact Below.refl _ _ | exact Nat.le_refl _ | (refine Below.alloc ?_ ?_ _) | (refine Below.setCell ?_ ?_ _) | (refine Below.drew ?_) | (refine below_drewN ?_ _) | assumption | (simp; done) | (simp; omega))) kY; (try have li := (by first | exact Lies.grew li kY | exact Lies.grew (Lies.below li (Below.refl _ _).drew) kY | exact Lies.grew (Lies.new oX 41) kY | exact Lies.grew (Lies.below (Lies.new oX 41) (Below.refl _ _).drew) kY)); have oX := oY; clear oY kY)
      | (go_at_call 139; refine (IH0.out r _ _ _ _ _ _ w0 _ _ _ HX.out T0.out (oX.below (by repeat' (first | exact Below.refl _ _ | exact Nat.le_refl _ | (refine Below.alloc ?_ ?_ _) | (refine Below.setCell ?_ ?_ _) | (refine Below.drew ?_) | (refine below_drewN ?_ _) | assumption | (simp; done) | (simp; omega)))) (by (try simp only [List.length_append, List.length_cons, List.length_nil]); omega) (by omega)).mono ?_; rintro e wY ⟨vY, rfl, oY, kY⟩; have gr := Grew.link gr (by repeat' (first | exact Below.refl _ _ | exact Nat.le_refl _ | (refine Below.alloc ?_ ?_ _) | (refine Below.setCell ?_ ?_ _) | (refine Below.drew ?_) | (refine below_drewN ?_ _) | assumption | (simp; done) | (simp; omega))) kY; (try have li := (by first | exact Lies.grew li kY | exact Lies.grew (Lies.below li (Below.refl _ _).drew) kY | exact Lies.grew (Lies.new oX 41) kY | exact Lies.grew (Lies.below (Lies.new oX 41) (Below.refl _ _).drew) kY)); have oX := oY; clear oY kY)
      | fail)
  have x0' := KeepT.cellT (Grew.keepB gr OW.out) sn x0
  clear KS
  have hsz : (signB k).size ≤ 3 := by have := signK_len k; unfold signK at this; simpa using this
  have HSg : Hid (((⟨#[32]⟩ : ByteArray) ++ signB k ++ ⟨#[32]⟩).data.toList = [32] ++ signK k ++ [32]) := Lib.hid (by unfold signK; simp)
  have hs3 : ((⟨#[32]⟩ : ByteArray) ++ signB k ++ ⟨#[32]⟩).size ≤ 5 := by
    have := HSg.out
    have h2 := congrArg List.length this
    rw [size_list] at h2
    have := signK_len k
    simp only [List.length_append, List.length_cons, List.length_nil] at h2
    omega
  have HS3 := Lib.hid hs3
  obtain ⟨L1, hL1⟩ : ∃ L, acc ++ [40] ++ txtT x = L := ⟨_, rfl⟩
  have hl1 : L1.length ≤ 50000000000 := by rw [← hL1]; simp only [List.length_append, List.length_cons, List.length_nil]; omega
  have HL1 := Lib.hid hL1
  rw [hL1] at oX
  clear hL1
  obtain ⟨Aw, cw, rfl, _⟩ := oX.slice
  have OX := Lib.hid oX
  have GR := Lib.hid gr
  clear oX gr hs3
  go_upto_region 9 with fail
  go_wp2_with fail
  refine (spec_l03Sign k HK.out _).mono ?_
  rintro e w3 ⟨rfl, b3⟩
  have O3 := Lib.hid (OX.out.below b3)
  have G3 := Lib.hid (GR.out.trans (Grew.of_below b3))
  have h1s : (1 : Nat) + (signB k).size ≤ 4 := by omega
  clear b3
  generalize hsb : signB k = sb at *
  have HSB := Lib.hid hsb
  clear hsb x0'
  go_wp2_with (at_builtin; refine wpList_outB_str rfl _ _ rfl rfl O3.out (⟨#[32]⟩ ++ sb ++ ⟨#[32]⟩) rfl (by have := HS3.out; omega) ?_; intro v4 w4 own4 kp4; have x3' := KeepT.cellT (Grew.keepB (G3.out.trans kp4) OW.out) sn x3; have z0 := cell_keep own4.own g0; have z1 := cell_keep own4.own g1; have z2 := cell_keep own4.own g2; have z3 := cell_keep own4.own g3; have O4 := Lib.hid own4; have G4 := Lib.hid (G3.out.trans kp4); clear own4 kp4)
  have FL : Hid ((L1 ++ ((⟨#[32]⟩ : ByteArray) ++ sb ++ ⟨#[32]⟩).data.toList).length ≤ 50000000010 ∧ F = L1 ++ ((⟨#[32]⟩ : ByteArray) ++ sb ++ ⟨#[32]⟩).data.toList ++ txtT y ++ [41]) := Lib.hid ⟨by have := HS3.out; rw [List.length_append, size_list]; omega, by rw [HF.out, ← HL1.out, HSg.out]⟩
  obtain ⟨L2, hL2⟩ : ∃ L, L1 ++ ((⟨#[32]⟩ : ByteArray) ++ sb ++ ⟨#[32]⟩).data.toList = L := ⟨_, rfl⟩
  rw [hL2] at O4 FL
  have hl2 := FL.out.1
  have hl2' : L2.length + 30 * 2 ^ r ≤ 50000000000 := by
    have h1 := HS3.out
    rw [← hL2, List.length_append, size_list, ← HL1.out]
    simp only [List.length_append, List.length_cons, List.length_nil]
    omega
  refine (IH1.out r _ _ _ _ _ _ w0 _ _ _ HY.out T1.out O4.out hl2' (by omega)).mono ?_
  rintro e w5 ⟨v5, rfl, o5, k5⟩
  obtain ⟨L3, hL3⟩ : ∃ L, L2 ++ txtT y = L := ⟨_, rfl⟩
  have hl3 : L3.length ≤ 60000000000 := by rw [← hL3, List.length_append]; omega
  have HF3 : Hid (F = L3 ++ [41]) := Lib.hid (by rw [FL.out.2, hL3])
  rw [hL3] at o5
  have O5 := Lib.hid o5
  have G5 := Lib.hid (G4.out.trans k5)
  obtain ⟨A5, c5, rfl, _⟩ := o5.slice
  clear o5 k5 hL3 hL2 x3' z0 z1 z2 z3
  go_wp2_with (at_builtin; refine wpList_outB_some rfl _ _ rfl rfl (O5.out.alloc _) _ 1 1 [41] rfl (Rd.new _ 1 1 _ _ rfl) (by omega) ?_; intro v6 w6 own6 kp6)
  go_ret
  rw [HF3.out]
  exact ⟨_, rfl, own6, (Grew.of_below K0.out).trans (Grew.link G5.out (Below.alloc (Below.refl _ _) (Nat.le_refl _) _) kp6)⟩
set_option maxHeartbeats 800000 in
theorem spec_l03Say (t : Tm) : SyC t := by
  induction hN : nodes t using Nat.strongRecOn generalizing t with
  | ind N ih =>
    intro room k n s A m c w0 w v acc hok ht own hb hr
    obtain ⟨kids, rfl, rfl, hl, hc, _, _, _, row⟩ := ht.inv
    have hpos := Nat.two_pow_pos room
    by_cases h1 : k = 1
    · subst h1; exact spec_say_num room n s A _ c kids w0 w v acc hok own (by omega)
    by_cases h2 : k = 2
    · subst h2; exact spec_say_var room n s A _ c kids w0 w v acc hok own (by omega)
    obtain ⟨r, rfl, ⟨rfl, x, rfl, hx⟩ | ⟨hk, x, y, rfl, hx, hy⟩⟩ := okT_kids h1 h2 hok
    · exact spec_say_not r (by omega) n s A c x (ih (nodes x) (by rw [← hN]; exact kid_lt (by simp)) x rfl) hx w0 w v acc row own hb
    · exact spec_say_two r (by omega) k n hk s A c x y (ih (nodes x) (by rw [← hN]; exact kid_lt (by simp)) x rfl) (ih (nodes y) (by rw [← hN]; exact kid_lt (by simp)) y rfl) hx hy w0 w v acc row own hb

theorem impl_termSign (k : Int) (hk : k = 3 ∨ k = 4 ∨ k = 5 ∨ k = 6 ∨ k = 7 ∨ k = 9) (w : World) : Calls Tryd.prog 169 #[.int .i64 k] w fun e w' => e = .returned (.string (signB k)) ∧ w = w' := by
  rcases hk with rfl | rfl | rfl | rfl | rfl | rfl
  all_goals
    go_enter Tryd.func169, Tryd.ntmps169
    go_wp2_with fail
    go_ret
    exact ⟨rfl, rfl⟩
abbrev TxC (t : Tm) : Prop := ∀ (room : Nat) (k n : Int) (s : ByteArray) (A : Option Addr) (m c : Nat) (w : World), okT room t = true → room ≤ 6 → TmIs AnyB w [.int .i64 k, .int .i64 n, .string s, .slice A m c] t → TabW w →
  Calls Tryd.prog 102 #[.agg #[.int .i64 k, .int .i64 n, .string s, .slice A m c]] w fun e w' => e = .returned (.string ⟨(txtT t).toArray⟩) ∧ Below w.heap.size w w'
set_option maxHeartbeats 800000 in
theorem impl_text_leaf (room : Nat) (k n : Int) (s : ByteArray) (A : Option Addr) (m c : Nat) (kids : List Tm) (w : World) (hk : k = 1 ∨ k = 2) (hok : okT room (.mk k n s kids) = true) (tab : TabW w) :
    Calls Tryd.prog 102 #[.agg #[.int .i64 k, .int .i64 n, .string s, .slice A m c]] w fun e w' => e = .returned (.string ⟨(txtT (.mk k n s kids)).toArray⟩) ∧ Below w.heap.size w w' := by
  rcases hk with rfl | rfl
  · rw [txtT_num]
    obtain ⟨h0, h1⟩ := okT_num_bd hok
    have TB := Lib.hid tab
    clear tab hok
    go_enter Tryd.func102, Tryd.ntmps102
    go_wp2_with fail
    refine (impl_Decimal n (by omega) (by omega) _ (TB.out.below (by repeat' (first | exact Below.refl _ _ | exact Nat.le_refl _ | (refine Below.alloc ?_ ?_ _) | (refine Below.setCell ?_ ?_ _) | (refine Below.drew ?_) | (refine below_drewN ?_ _) | assumption | (simp; done) | (simp; omega))))).mono ?_
    rintro e w1 ⟨rfl, b1⟩
    have B1 : Hid (Below w.heap.size w w1) := Lib.hid (Below.trans (by repeat' (first | exact Below.refl _ _ | exact Nat.le_refl _ | (refine Below.alloc ?_ ?_ _) | (refine Below.setCell ?_ ?_ _) | (refine Below.drew ?_) | (refine below_drewN ?_ _) | assumption | (simp; done) | (simp; omega))) (b1.mono (by simp)))
    clear b1
    go_wp2_with fail
    go_ret
    exact ⟨rfl, B1.out⟩
  · rw [txtT_var]
    clear tab hok
    go_enter Tryd.func102, Tryd.ntmps102
    go_wp2_with fail
    go_ret
    exact ⟨ret_str (by simp), (by repeat' (first | exact Below.refl _ _ | exact Nat.le_refl _ | (refine Below.alloc ?_ ?_ _) | (refine Below.setCell ?_ ?_ _) | (refine Below.drew ?_) | (refine below_drewN ?_ _) | assumption | (simp; done) | (simp; omega)))⟩
set_option maxHeartbeats 800000 in
theorem impl_text_not (r : Nat) (hr : r ≤ 5) (n : Int) (s : ByteArray) (A : Option Addr) (c : Nat) (x : Tm) (ih : TxC x) (hx : okT r x = true) (w : World) (row : TmRow AnyB w A [x]) (tab : TabW w) :
    Calls Tryd.prog 102 #[.agg #[.int .i64 8, .int .i64 n, .string s, .slice A 1 c]] w fun e w' => e = .returned (.string ⟨(txtT (.mk 8 n s [x])).toArray⟩) ∧ Below w.heap.size w w' := by
  obtain ⟨F, hF⟩ : ∃ F : ByteArray, ⟨(txtT (.mk 8 n s [x])).toArray⟩ = F := ⟨_, rfl⟩
  have FS : Hid ((⟨#[40, 110, 111, 116, 32]⟩ : ByteArray) ++ ⟨(txtT x).toArray⟩ ++ ⟨#[41]⟩ = F) := Lib.hid (by rw [← hF, txtT_one]; apply str_ext; simp)
  rw [hF]
  clear hF
  obtain ⟨b, off, k0, n0, s0, A0, m0, c0, rfl, _, e0, e1, e2, e3, t0⟩ := rd_term row (k := 0) (by simp)
  have T0 : Hid (TmIs AnyB w [.int .i64 k0, .int .i64 n0, .string s0, .slice A0 m0 c0] x) := Lib.hid t0
  have IH := Lib.hid ih
  have TB := Lib.hid tab
  have HX := Lib.hid hx
  have hl := txt_len r x hx
  have hp : 2 ^ r ≤ 2 ^ 5 := Nat.pow_le_pow_right (by decide) hr
  have hl2 : (txtT x).length ≤ 1000 := by omega
  simp only [Nat.zero_mul, Nat.add_zero] at e0 e1 e2 e3
  have WA := Below.alloc (Below.refl w.heap.size w) (Nat.le_refl _) (.cells #[.int .i64 8, .int .i64 n, .string s, .slice (some ⟨b, off, none⟩) 1 c] 24)
  replace e0 := cell_keep WA e0
  replace e1 := cell_keep WA e1
  replace e2 := cell_keep WA e2
  replace e3 := cell_keep WA e3
  clear row t0 ih tab hx hp hl WA
  go_enter Tryd.func102, Tryd.ntmps102
  go_wp2_with fail
  refine (IH.out r _ _ _ _ _ _ _ HX.out (by omega) (T0.out.belowA (by repeat' (first | exact Below.refl _ _ | exact Nat.le_refl _ | (refine Below.alloc ?_ ?_ _) | (refine Below.setCell ?_ ?_ _) | (refine Below.drew ?_) | (refine below_drewN ?_ _) | assumption | (simp; done) | (simp; omega)))) (TB.out.below (by repeat' (first | exact Below.refl _ _ | exact Nat.le_refl _ | (refine Below.alloc ?_ ?_ _) | (refine Below.setCell ?_ ?_ _) | (refine Below.drew ?_) | (refine below_drewN ?_ _) | assumption | (simp; done) | (simp; omega))))).mono ?_
  rintro e w1 ⟨rfl, b1⟩
  have B1 : Hid (Below w.heap.size w w1) := Lib.hid (Below.trans (by repeat' (first | exact Below.refl _ _ | exact Nat.le_refl _ | (refine Below.alloc ?_ ?_ _) | (refine Below.setCell ?_ ?_ _) | (refine Below.drew ?_) | (refine below_drewN ?_ _) | assumption | (simp; done) | (simp; omega))) (b1.mono (by simp)))
  clear b1 e0 e1 e2 e3
  generalize txtT x = l at *
  go_wp2_with fail
  go_ret
  exact ⟨ret_str FS.out, B1.out⟩
set_option maxHeartbeats 1600000 in
set_option maxRecDepth 100000 in
theorem impl_text_two (r : Nat) (hr : r ≤ 5) (k n : Int) (hk : k = 3 ∨ k = 4 ∨ k = 5 ∨ k = 6 ∨ k = 7 ∨ k = 9) (s : ByteArray) (A : Option Addr) (c : Nat) (x y : Tm) (ih : TxC x) (ih' : TxC y) (hx : okT r x = true) (hy : okT r y = true) (w : World) (row : TmRow AnyB w A [x, y]) (tab : TabW w) :
    Calls Tryd.prog 102 #[.agg #[.int .i64 k, .int .i64 n, .string s, .slice A 2 c]] w fun e w' => e = .returned (.string ⟨(txtT (.mk k n s [x, y])).toArray⟩) ∧ Below w.heap.size w w' := by
  have hk1 : k ≠ 1 ∧ k ≠ 2 ∧ k ≠ 8 := by omega
  obtain ⟨h1, h2, h8⟩ := hk1
  obtain ⟨F, hF⟩ : ∃ F : ByteArray, ⟨(txtT (.mk k n s [x, y])).toArray⟩ = F := ⟨_, rfl⟩
  have FS : Hid ((⟨#[40]⟩ : ByteArray) ++ ⟨(txtT x).toArray⟩ ++ ⟨#[32]⟩ ++ signB k ++ ⟨#[32]⟩ ++ ⟨(txtT y).toArray⟩ ++ ⟨#[41]⟩ = F) := Lib.hid (by rw [← hF, txtT_two h1 h2 h8]; apply str_ext; unfold signK; simp)
  rw [hF]
  clear hF
  obtain ⟨b, off, k0, n0, s0, A0, m0, c0, rfl, _, e0, e1, e2, e3, t0⟩ := rd_term row (k := 0) (by simp)
  obtain ⟨b', off', k1, n1, s1, A1, m1, c1, eA, _, g0, g1, g2, g3, t1⟩ := rd_term row (k := 1) (by simp)
  injection eA with eA
  injection eA with eA1 eA2
  subst eA1 eA2
  have T0 : Hid (TmIs AnyB w [.int .i64 k0, .int .i64 n0, .string s0, .slice A0 m0 c0] x) := Lib.hid t0
  have T1 : Hid (TmIs AnyB w [.int .i64 k1, .int .i64 n1, .string s1, .slice A1 m1 c1] y) := Lib.hid t1
  have IH := Lib.hid ih
  have IH' := Lib.hid ih'
  have TB := Lib.hid tab
  have HX := Lib.hid hx
  have HY := Lib.hid hy
  have hlx := txt_len r x hx
  have hly := txt_len r y hy
  have hp : 2 ^ r ≤ 2 ^ 5 := Nat.pow_le_pow_right (by decide) hr
  have hl2 : (txtT x).length ≤ 1000 := by omega
  have hl3 : (txtT y).length ≤ 1000 := by omega
  have hsg : (signB k).size ≤ 3 := by have := signK_len k; unfold signK at this; simpa using this
  have HK := Lib.hid hk
  have q1 : (k == 1) = false := beq_eq_false_iff_ne.2 h1
  have q2 : (k == 2) = false := beq_eq_false_iff_ne.2 h2
  have q8 : (k == 8) = false := beq_eq_false_iff_ne.2 h8
  simp only [Nat.zero_mul, Nat.add_zero] at e0 e1 e2 e3
  simp only [Nat.one_mul, Nat.add_assoc, Nat.reduceAdd] at g0 g1 g2 g3
  clear row t0 t1 ih ih' tab hx hy hp hlx hly hk h1 h2 h8
  go_enter Tryd.func102, Tryd.ntmps102
  go_upto_region 8 with fail
  have WA := Below.alloc (Below.refl w.heap.size w) (Nat.le_refl _) (.cells #[.int .i64 k, .int .i64 n, .string s, .slice (some ⟨b, off, none⟩) 2 c] 24)
  replace e0 := cell_keep WA e0
  replace e1 := cell_keep WA e1
  replace e2 := cell_keep WA e2
  replace e3 := cell_keep WA e3
  replace g0 := cell_keep WA g0
  replace g1 := cell_keep WA g1
  replace g2 := cell_keep WA g2
  replace g3 := cell_keep WA g3
  have T0A := Lib.hid (T0.out.belowA WA)
  have T1A := Lib.hid (T1.out.belowA WA)
  have TBA := Lib.hid (TB.out.below WA)
  have HW := Lib.hid WA
  obtain ⟨x0, x1, x2, x3⟩ : Box4 (w.alloc (.cells #[.int .i64 k, .int .i64 n, .string s, .slice (some ⟨b, off, none⟩) 2 c] 24)) w.heap.size (vt k n s (some ⟨b, off, none⟩) 2 c) := Box4.lit rfl
  simp only [vt] at x0 x1 x2 x3
  clear WA T0 T1 TB
  generalize w.alloc (.cells #[.int .i64 k, .int .i64 n, .string s, .slice (some ⟨b, off, none⟩) 2 c] 24) = w1 at *
  refine wp_region_later (by kernel_rfl) (by kernel_rfl) ?_
  intro gw hgw hcw
  have HG := Lib.hid hgw
  have HC := Lib.hid hcw
  clear hgw hcw
  have p0 : ∀ n', (gw n').cell? ⟨w.heap.size, 0, none⟩ = some (.int .i64 k) := fun n' => cell_keep (HG.out n') x0
  have p3 : ∀ n', (gw n').cell? ⟨w.heap.size, 3, none⟩ = some (.slice (some ⟨b, off, none⟩) 2 c) := fun n' => cell_keep (HG.out n') x3
  have f0 : ∀ n', (gw n').cell? ⟨b, off, none⟩ = some (.int .i64 k0) := fun n' => cell_keep (HG.out n') e0
  have f1 : ∀ n', (gw n').cell? ⟨b, off + 1, none⟩ = some (.int .i64 n0) := fun n' => cell_keep (HG.out n') e1
  have f2 : ∀ n', (gw n').cell? ⟨b, off + 2, none⟩ = some (.string s0) := fun n' => cell_keep (HG.out n') e2
  have f3 : ∀ n', (gw n').cell? ⟨b, off + 3, none⟩ = some (.slice A0 m0 c0) := fun n' => cell_keep (HG.out n') e3
  have r0 : ∀ n', (gw n').cell? ⟨b, off + 4, none⟩ = some (.int .i64 k1) := fun n' => cell_keep (HG.out n') g0
  have r1 : ∀ n', (gw n').cell? ⟨b, off + 5, none⟩ = some (.int .i64 n1) := fun n' => cell_keep (HG.out n') g1
  have r2 : ∀ n', (gw n').cell? ⟨b, off + 6, none⟩ = some (.string s1) := fun n' => cell_keep (HG.out n') g2
  have r3 : ∀ n', (gw n').cell? ⟨b, off + 7, none⟩ = some (.slice A1 m1 c1) := fun n' => cell_keep (HG.out n') g3
  have QX := Lib.hid (fun m => IH.out r k0 n0 s0 A0 m0 c0 (gw m) HX.out (by omega) (T0A.out.belowA (HG.out m)) (TBA.out.below (HG.out m)))
  have QY := Lib.hid (fun m => IH'.out r k1 n1 s1 A1 m1 c1 (gw m) HY.out (by omega) (T1A.out.belowA (HG.out m)) (TBA.out.below (HG.out m)))
  have QS := Lib.hid (fun m => impl_termSign k HK.out (gw m))
  clear x0 x1 x2 x3 e0 e1 e2 e3 g0 g1 g2 g3 T0A T1A TBA IH IH'
  generalize txtT x = X at *
  generalize txtT y = Y at *
  generalize hsb : signB k = sg at *
  repeat (go_big_quiet_step ((first | (go_at_call 102; with_reducible exact later_of HC (QX.out _)) | (go_at_call 102; with_reducible exact later_of HC (QY.out _)) | (go_at_call 169; with_reducible exact later_same (QS.out _)))))
  refine wpQuiet_nil ?_
  intro _ hw'
  obtain ⟨nq, hw''⟩ := hw'
  subst hw''
  clear p0 p3 f0 f1 f2 f3 r0 r1 r2 r3
  go_wp2_with fail
  go_ret
  exact ⟨ret_str FS.out, below_then HW.out (HG.out _)⟩

theorem impl_textOfTerm (t : Tm) : TxC t := by
  induction hN : nodes t using Nat.strongRecOn generalizing t with
  | ind N ih =>
    intro room k n s A m c w hok hr ht tab
    obtain ⟨kids, rfl, rfl, hl, hc, _, _, _, row⟩ := ht.inv
    by_cases h1 : k = 1
    · exact impl_text_leaf room k n s A _ c kids w (.inl h1) hok tab
    by_cases h2 : k = 2
    · exact impl_text_leaf room k n s A _ c kids w (.inr h2) hok tab
    obtain ⟨r, rfl, ⟨rfl, x, rfl, hx⟩ | ⟨hk, x, y, rfl, hx, hy⟩⟩ := okT_kids h1 h2 hok
    · exact impl_text_not r (by omega) n s A c x (ih (nodes x) (by rw [← hN]; exact kid_lt (by simp)) x rfl) hx w row tab
    · exact impl_text_two r (by omega) k n hk s A c x y (ih (nodes x) (by rw [← hN]; exact kid_lt (by simp)) x rfl) (ih (nodes y) (by rw [← hN]; exact kid_lt (by simp)) y rfl) hx hy w row tab
set_option maxHeartbeats 400000 in
theorem impl_TermText (t : Tm) (k n : Int) (s : ByteArray) (A : Option Addr) (m c : Nat) (w : World) (ht : TmIs AnyB w [.int .i64 k, .int .i64 n, .string s, .slice A m c] t) (tab : TabW w) :
    Calls Tryd.prog 41 #[.agg #[.int .i64 k, .int .i64 n, .string s, .slice A m c]] w fun e w' => e = .returned (.string ⟨(txtR t).toArray⟩) ∧ Below w.heap.size w w' := by
  have HT := Lib.hid ht
  have TB := Lib.hid tab
  clear ht tab
  cases h : okT 6 t with
  | false =>
    have FR := Lib.hid (txtR_no h)
    have OK := Lib.hid h
    clear h
    go_enter Tryd.func41, Tryd.ntmps41
    go_wp2_with fail
    refine (impl_TermOk t k n s A m c _ (HT.out.belowA (by repeat' (first | exact Below.refl _ _ | exact Nat.le_refl _ | (refine Below.alloc ?_ ?_ _) | (refine Below.setCell ?_ ?_ _) | (refine Below.drew ?_) | (refine below_drewN ?_ _) | assumption | (simp; done) | (simp; omega))))).mono ?_
    rintro e w1 ⟨rfl, b1⟩
    have B1 : Hid (Below w.heap.size w w1) := Lib.hid (Below.trans (by repeat' (first | exact Below.refl _ _ | exact Nat.le_refl _ | (refine Below.alloc ?_ ?_ _) | (refine Below.setCell ?_ ?_ _) | (refine Below.drew ?_) | (refine below_drewN ?_ _) | assumption | (simp; done) | (simp; omega))) (b1.mono (by simp)))
    rw [OK.out]
    clear b1
    go_wp2_with fail
    go_ret
    exact ⟨by rw [FR.out]; rfl, B1.out⟩
  | true =>
    have FR := Lib.hid (txtR_yes h)
    have OK := Lib.hid h
    clear h
    go_enter Tryd.func41, Tryd.ntmps41
    go_wp2_with fail
    refine (impl_TermOk t k n s A m c _ (HT.out.belowA (by repeat' (first | exact Below.refl _ _ | exact Nat.le_refl _ | (refine Below.alloc ?_ ?_ _) | (refine Below.setCell ?_ ?_ _) | (refine Below.drew ?_) | (refine below_drewN ?_ _) | assumption | (simp; done) | (simp; omega))))).mono ?_
    rintro e w1 ⟨rfl, b1⟩
    have B1 : Hid (Below w.heap.size w w1) := Lib.hid (Below.trans (by repeat' (first | exact Below.refl _ _ | exact Nat.le_refl _ | (refine Below.alloc ?_ ?_ _) | (refine Below.setCell ?_ ?_ _) | (refine Below.drew ?_) | (refine below_drewN ?_ _) | assumption | (simp; done) | (simp; omega))) (b1.mono (by simp)))
    have X1 : Box4 w1 w.heap.size (vt k n s A m c) := Box4.below (Box4.lit rfl) b1
    obtain ⟨p0, p1, p2, p3⟩ := X1
    simp only [vt] at p0 p1 p2 p3
    rw [OK.out]
    clear b1
    go_wp2_with fail
    refine (impl_textOfTerm t 6 k n s A m c _ OK.out (by omega) (HT.out.belowA B1.out) (TB.out.below B1.out)).mono ?_
    rintro e w2 ⟨rfl, b2⟩
    have B2 := Lib.hid (below_then B1.out b2)
    clear b2
    generalize hX : txtT t = X at *
    go_wp2_with fail
    go_ret
    exact ⟨by rw [FR.out]; rfl, B2.out⟩
set_option maxHeartbeats 400000 in
theorem spec_TermText (t : Tm) (k n : Int) (s : ByteArray) (A : Option Addr) (m c : Nat) (w : World) (ht : TmIs AnyB w [.int .i64 k, .int .i64 n, .string s, .slice A m c] t) :
    Calls Tryd.prog 90 #[.agg #[.int .i64 k, .int .i64 n, .string s, .slice A m c]] w fun e w' => e = .returned (.string ⟨(txtR t).toArray⟩) ∧ Below w.heap.size w w' := by
  have HT := Lib.hid ht
  clear ht
  cases h : okT 6 t with
  | false =>
    have FR := Lib.hid (txtR_no h)
    have OK := Lib.hid h
    clear h
    go_enter Tryd.func90, Tryd.ntmps90
    go_wp2_with fail
    refine (spec_TermOk t k n s A m c _ (HT.out.belowA (by repeat' (first | exact Below.refl _ _ | exact Nat.le_refl _ | (refine Below.alloc ?_ ?_ _) | (refine Below.setCell ?_ ?_ _) | (refine Below.drew ?_) | (refine below_drewN ?_ _) | assumption | (simp; done) | (simp; omega))))).mono ?_
    rintro e w1 ⟨rfl, b1⟩
    have B1 : Hid (Below w.heap.size w w1) := Lib.hid (Below.trans (by repeat' (first | exact Below.refl _ _ | exact Nat.le_refl _ | (refine Below.alloc ?_ ?_ _) | (refine Below.setCell ?_ ?_ _) | (refine Below.drew ?_) | (refine below_drewN ?_ _) | assumption | (simp; done) | (simp; omega))) (b1.mono (by simp)))
    rw [OK.out]
    clear b1
    go_wp2_with fail
    go_ret
    exact ⟨by rw [FR.out]; rfl, B1.out⟩
  | true =>
    have FR := Lib.hid (txtR_yes h)
    have OK := Lib.hid h
    clear h
    go_enter Tryd.func90, Tryd.ntmps90
    go_wp2_with fail
    refine (spec_TermOk t k n s A m c _ (HT.out.belowA (by repeat' (first | exact Below.refl _ _ | exact Nat.le_refl _ | (refine Below.alloc ?_ ?_ _) | (refine Below.setCell ?_ ?_ _) | (refine Below.drew ?_) | (refine below_drewN ?_ _) | assumption | (simp; done) | (simp; omega))))).mono ?_
    rintro e w1 ⟨rfl, b1⟩
    have B1 : Hid (Below w.heap.size w w1) := Lib.hid (Below.trans (by repeat' (first | exact Below.refl _ _ | exact Nat.le_refl _ | (refine Below.alloc ?_ ?_ _) | (refine Below.setCell ?_ ?_ _) | (refine Below.drew ?_) | (refine below_drewN ?_ _) | assumption | (simp; done) | (simp; omega))) (b1.mono (by simp)))
    have X1 : Box4 w1 w.heap.size (vt k n s A m c) := Box4.below (Box4.lit rfl) b1
    obtain ⟨p0, p1, p2, p3⟩ := X1
    simp only [vt] at p0 p1 p2 p3
    have hz := cell_lt p0
    rw [OK.out]
    clear b1
    have OB : Hid (OutB w (w1.alloc (.cells #[] 5)) (.slice (some ⟨w1.heap.size, 0, none⟩) 0 0) []) := Lib.hid (OutB.empty B1.out)
    go_wp2_with fail
    refine (spec_l03Say t 6 k n s A m c w _ _ [] OK.out HT.out OB.out (by simp) (by omega)).mono ?_
    rintro e w2 ⟨v2, rfl, o2, _⟩
    have B2 := Lib.hid o2.own
    have e2 : OutB w w2 v2 (txtT t) := o2
    obtain ⟨A2, c2, rfl, _⟩ := e2.slice
    have cv := str_run (w := w2) c2 (Own.rd e2)
    clear o2 e2
    generalize hX : txtT t = X at *
    go_wp2_with fail
    go_ret
    exact ⟨by rw [FR.out]; rfl, B2.out⟩
end Go.Proofs.YtefcdpkficojgaaDoor
