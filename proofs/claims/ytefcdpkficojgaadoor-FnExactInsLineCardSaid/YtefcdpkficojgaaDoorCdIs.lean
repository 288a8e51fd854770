/- Instructions and codes: what it is that cells read as one; measuring them. -/
import Derived.Test.YtefcdpkficojgaaDoorTermHelp
import Derived.Test.YtefcdpkficojgaaDoorInts
namespace Go.Proofs.YtefcdpkficojgaaDoor
open Go.RowKit
set_option linter.unusedVariables false

structure Ic where
  op : Int
  arg : Int
  term : Tm
  to : Int
structure Cd where
  globals : List ByteArray
  locks : List ByteArray
  procs : List ByteArray
  entry : List Int
  ins : List Ic
/-- the seven cells of an instruction -/
structure V7 where
  op : Int
  arg : Int
  k : Int
  n : Int
  s : ByteArray
  A : Option Addr
  m : Nat
  c : Nat
  to : Int
def V7.cells (x : V7) : List Value := [.int .i64 x.op, .int .i64 x.arg, .int .i64 x.k, .int .i64 x.n, .string x.s, .slice x.A x.m x.c, .int .i64 x.to]
def V7.term (x : V7) : List Value := [.int .i64 x.k, .int .i64 x.n, .string x.s, .slice x.A x.m x.c]
def V7.val (x : V7) : Value := .agg #[.int .i64 x.op, .int .i64 x.arg, .int .i64 x.k, .int .i64 x.n, .string x.s, .slice x.A x.m x.c, .int .i64 x.to]
theorem v7_len (x : V7) : x.cells.length = 7 := rfl
def z7 : V7 := ⟨0, 0, 0, 0, ByteArray.empty, none, 0, 0, 0⟩
def IcIs (F : Nat → Prop) (w : World) (x : V7) (i : Ic) : Prop := x.op = i.op ∧ x.arg = i.arg ∧ x.to = i.to ∧ i64in i.op ∧ i64in i.arg ∧ i64in i.to ∧ TmIs F w x.term i.term
/-- a row of instructions -/
def IcRow (F : Nat → Prop) (w : World) (A : Option Addr) (l : List Ic) : Prop :=
  ∃ xs : List V7, xs.length = l.length ∧ Rd w 7 A xs.length (xs.flatMap V7.cells) ∧ (∀ b off, A = some ⟨b, off, none⟩ → 0 < l.length → F b) ∧ ∀ i (h : i < l.length) (h' : i < xs.length), IcIs F w xs[i] l[i]
theorem IcIs.keep {F F' : Nat → Prop} {w w' : World} {x : V7} {i : Ic} (h : IcIs F w x i) (hk : ∀ p : Addr, p.block < w.heap.size → F p.block → w'.cell? p = w.cell? p) (hF : ∀ b, b < w.heap.size → F b → F' b) : IcIs F' w' x i :=
  ⟨h.1, h.2.1, h.2.2.1, h.2.2.2.1, h.2.2.2.2.1, h.2.2.2.2.2.1, h.2.2.2.2.2.2.keep hk hF⟩
theorem rd_keepB {F F' : Nat → Prop} {w w' : World} {sz n : Nat} {A : Option Addr} {cs : List Value} (hsz : 0 < sz) (rd : Rd w sz A n cs) (hf : ∀ b off, A = some ⟨b, off, none⟩ → 0 < n → F b) (hk : ∀ p : Addr, p.block < w.heap.size → F p.block → w'.cell? p = w.cell? p) (hF : ∀ b, b < w.heap.size → F b → F' b) :
    Rd w' sz A n cs ∧ ∀ b off, A = some ⟨b, off, none⟩ → 0 < n → F' b := by
  refine ⟨⟨rd.1, fun hn => ?_⟩, fun b off e hn => ?_⟩
  · obtain ⟨b, off, e, hcell⟩ := rd.2 hn
    exact ⟨b, off, e, fun j u hu => (hk _ (cell_lt (hcell j u hu)) (hf b off e hn)).trans (hcell j u hu)⟩
  · obtain ⟨b', off', e', hcell⟩ := rd.2 hn
    rw [e'] at e
    injection e with e
    injection e with e1 e2
    subst e1 e2
    refine hF _ ?_ (hf _ _ e' hn)
    have h0 : 0 < cs.length := by rw [rd.1]; exact Nat.mul_pos hn hsz
    exact cell_lt (hcell 0 _ (List.getElem?_eq_getElem h0))
theorem IcRow.keep {F F' : Nat → Prop} {w w' : World} {A : Option Addr} {l : List Ic} (h : IcRow F w A l) (hk : ∀ p : Addr, p.block < w.heap.size → F p.block → w'.cell? p = w.cell? p) (hF : ∀ b, b < w.heap.size → F b → F' b) : IcRow F' w' A l := by
  obtain ⟨xs, hl, rd, hf, hx⟩ := h
  obtain ⟨q1, q2⟩ := rd_keepB (by decide) rd (fun b off e hn => hf b off e (by omega)) hk hF
  exact ⟨xs, hl, q1, fun b off e hn => q2 b off e (by omega), fun i h h' => (hx i h h').keep hk hF⟩
theorem IcIs.any {F : Nat → Prop} {w : World} {x : V7} {i : Ic} (h : IcIs F w x i) : IcIs AnyB w x i := h.keep (fun _ _ _ => rfl) (fun _ _ _ => trivial)
theorem IcRow.any {F : Nat → Prop} {w : World} {A : Option Addr} {l : List Ic} (h : IcRow F w A l) : IcRow AnyB w A l := h.keep (fun _ _ _ => rfl) (fun _ _ _ => trivial)
theorem IcIs.belowA {w w' : World} {x : V7} {i : Ic} (h : IcIs AnyB w x i) (hb : Below w.heap.size w w') : IcIs AnyB w' x i := h.keep (fun _ hp _ => hb.cell hp) (fun _ _ _ => trivial)
theorem IcRow.belowA {w w' : World} {A : Option Addr} {l : List Ic} (h : IcRow AnyB w A l) (hb : Below w.heap.size w w') : IcRow AnyB w' A l := h.keep (fun _ hp _ => hb.cell hp) (fun _ _ _ => trivial)
theorem IcIs.belowF {lo : Nat} {w w' : World} {x : V7} {i : Ic} (h : IcIs (Fr lo w) w x i) (hb : Below w.heap.size w w') : IcIs (Fr lo w') w' x i := h.keep (fun _ hp _ => hb.cell hp) (Fr.below hb)
theorem IcRow.belowF {lo : Nat} {w w' : World} {A : Option Addr} {l : List Ic} (h : IcRow (Fr lo w) w A l) (hb : Below w.heap.size w w') : IcRow (Fr lo w') w' A l := h.keep (fun _ hp _ => hb.cell hp) (Fr.below hb)
theorem IcIs.mono {lo lo' : Nat} {w : World} {x : V7} {i : Ic} (h : IcIs (Fr lo w) w x i) (hl : lo' ≤ lo) : IcIs (Fr lo' w) w x i := h.keep (fun _ _ _ => rfl) (fun b _ ⟨h1, h2⟩ => ⟨by omega, h2⟩)
theorem IcRow.mono {lo lo' : Nat} {w : World} {A : Option Addr} {l : List Ic} (h : IcRow (Fr lo w) w A l) (hl : lo' ≤ lo) : IcRow (Fr lo' w) w A l := h.keep (fun _ _ _ => rfl) (fun b _ ⟨h1, h2⟩ => ⟨by omega, h2⟩)
theorem IcIs.setF {lo : Nat} {w : World} {x : V7} {i : Ic} (h : IcIs (Fr lo w) w x i) {p : Addr} (hp : p.block < lo) (u : Value) : IcIs (Fr lo (w.setCell p u)) (w.setCell p u) x i :=
  h.keep (fun q _ hq => World.cell?_setCell_other w p q u (fun e => by subst e; have := hq.1; omega)) (fun b _ ⟨h1, cur, e, h2⟩ => ⟨h1, cur, e, (Below.heap_setCell w p u b (by omega)).trans h2⟩)
theorem IcRow.setF {lo : Nat} {w : World} {A : Option Addr} {l : List Ic} (h : IcRow (Fr lo w) w A l) {p : Addr} (hp : p.block < lo) (u : Value) : IcRow (Fr lo (w.setCell p u)) (w.setCell p u) A l :=
  h.keep (fun q _ hq => World.cell?_setCell_other w p q u (fun e => by subst e; have := hq.1; omega)) (fun b _ ⟨h1, cur, e, h2⟩ => ⟨h1, cur, e, (Below.heap_setCell w p u b (by omega)).trans h2⟩)
/-- the cells of element k of a row -/
def Cells7 (w : World) (b o : Nat) (x : V7) : Prop := w.cell? ⟨b, o, none⟩ = some (.int .i64 x.op) ∧ w.cell? ⟨b, o + 1, none⟩ = some (.int .i64 x.arg) ∧ w.cell? ⟨b, o + 2, none⟩ = some (.int .i64 x.k) ∧ w.cell? ⟨b, o + 3, none⟩ = some (.int .i64 x.n) ∧ w.cell? ⟨b, o + 4, none⟩ = some (.string x.s) ∧ w.cell? ⟨b, o + 5, none⟩ = some (.slice x.A x.m x.c) ∧ w.cell? ⟨b, o + 6, none⟩ = some (.int .i64 x.to)
theorem rd_ins {F : Nat → Prop} {w : World} {A : Option Addr} {l : List Ic} (row : IcRow F w A l) {k : Nat} (hk : k < l.length) :
    ∃ b off x, A = some ⟨b, off, none⟩ ∧ F b ∧ Cells7 w b (off + k * 7) x ∧ IcIs F w x l[k] := by
  obtain ⟨xs, hl, rd, hF, hx⟩ := row
  have hk' : k < xs.length := by omega
  obtain ⟨b, off, e, hc⟩ := rd_flat v7_len rd hk'
  exact ⟨b, off, xs[k], e, hF b off e (by omega), ⟨hc 0 _ (by decide) rfl, hc 1 _ (by decide) rfl, hc 2 _ (by decide) rfl, hc 3 _ (by decide) rfl, hc 4 _ (by decide) rfl, hc 5 _ (by decide) rfl, hc 6 _ (by decide) rfl⟩, hx k hk hk'⟩
/-- the value of a code: five slices -/
structure V5 where
  gA : Option Addr
  gc : Nat
  lA : Option Addr
  lc : Nat
  pA : Option Addr
  pc : Nat
  eA : Option Addr
  ec : Nat
  iA : Option Addr
  ic : Nat
def V5.cells (x : V5) (p : Cd) : List Value := [.slice x.gA p.globals.length x.gc, .slice x.lA p.locks.length x.lc, .slice x.pA p.procs.length x.pc, .slice x.eA p.entry.length x.ec, .slice x.iA p.ins.length x.ic]
def V5.val (x : V5) (p : Cd) : Value := .agg #[.slice x.gA p.globals.length x.gc, .slice x.lA p.locks.length x.lc, .slice x.pA p.procs.length x.pc, .slice x.eA p.entry.length x.ec, .slice x.iA p.ins.length x.ic]
structure CdIs (w : World) (x : V5) (p : Cd) : Prop where
  g1 : p.globals.length ≤ x.gc
  g2 : x.gc ≤ maxLen
  g3 : Rd w 1 x.gA p.globals.length (p.globals.map Value.string)
  g4 : ∀ s ∈ p.globals, s.size ≤ maxLen
  l1 : p.locks.length ≤ x.lc
  l2 : x.lc ≤ maxLen
  l3 : Rd w 1 x.lA p.locks.length (p.locks.map Value.string)
  l4 : ∀ s ∈ p.locks, s.size ≤ maxLen
  p1 : p.procs.length ≤ x.pc
  p2 : x.pc ≤ maxLen
  p3 : Rd w 1 x.pA p.procs.length (p.procs.map Value.string)
  p4 : ∀ s ∈ p.procs, s.size ≤ maxLen
  e1 : p.entry.length ≤ x.ec
  e2 : x.ec ≤ maxLen
  e3 : Rd w 1 x.eA p.entry.length (p.entry.map (Value.int .i64))
  e4 : ∀ z ∈ p.entry, i64in z
  i1 : p.ins.length ≤ x.ic
  i2 : x.ic ≤ maxLen
  i3 : IcRow AnyB w x.iA p.ins
theorem CdIs.belowA {w w' : World} {x : V5} {p : Cd} (h : CdIs w x p) (hb : Below w.heap.size w w') : CdIs w' x p := ⟨h.g1, h.g2, h.g3.below hb, h.g4, h.l1, h.l2, h.l3.below hb, h.l4, h.p1, h.p2, h.p3.below hb, h.p4, h.e1, h.e2, h.e3.below hb, h.e4, h.i1, h.i2, h.i3.belowA hb⟩
theorem CdIs.drew {w : World} {x : V5} {p : Cd} (h : CdIs w x p) : CdIs w.drew x p := h.belowA (Below.refl _ _).drew
theorem CdIs.gs {w : World} {x : V5} {p : Cd} (h : CdIs w x p) : IsStrs w (.slice x.gA p.globals.length x.gc) p.globals := ⟨_, _, rfl, h.g1, h.g2, h.g3⟩
theorem CdIs.ls {w : World} {x : V5} {p : Cd} (h : CdIs w x p) : IsStrs w (.slice x.lA p.locks.length x.lc) p.locks := ⟨_, _, rfl, h.l1, h.l2, h.l3⟩
theorem CdIs.ps {w : World} {x : V5} {p : Cd} (h : CdIs w x p) : IsStrs w (.slice x.pA p.procs.length x.pc) p.procs := ⟨_, _, rfl, h.p1, h.p2, h.p3⟩
theorem CdIs.es {w : World} {x : V5} {p : Cd} (h : CdIs w x p) : IsInts w (.slice x.eA p.entry.length x.ec) p.entry := ⟨_, _, rfl, h.e1, h.e2, h.e3⟩
def IsCode (w : World) (v : Value) (p : Cd) : Prop := ∃ x : V5, v = x.val p ∧ CdIs w x p
def totIs : List Ic → Nat | [] => 0 | p :: r => 1 + totT p.term + totIs r
def totCd (p : Cd) : Nat := totS p.globals + totS p.locks + totS p.procs + p.entry.length + totIs p.ins
theorem totIs_le {l : List Ic} {x : Ic} (h : x ∈ l) : totT x.term ≤ totIs l := by
  induction l with
  | nil => cases h
  | cons y r ih =>
    rw [totIs]
    rcases List.mem_cons.1 h with rfl | h
    · omega
    · have := ih h; omega
theorem totIs_len (l : List Ic) : l.length ≤ totIs l := by
  induction l with
  | nil => simp
  | cons y r ih => rw [totIs, List.length_cons]; omega
theorem totIs_append (l r : List Ic) : totIs (l ++ r) = totIs l + totIs r := by
  induction l with
  | nil => simp [totIs]
  | cons y t ih => rw [List.cons_append, totIs, totIs, ih]; omega
theorem totIs_take (l : List Ic) (k : Nat) (h : k < l.length) : totIs (l.take (k + 1)) = totIs (l.take k) + 1 + totT l[k].term := by
  have e : l.take (k + 1) = l.take k ++ [l[k]] := List.take_succ_eq_append_getElem h
  rw [e, totIs_append, totIs, totIs]; omega
theorem totIs_drop (l : List Ic) (k : Nat) (h : k ≤ l.length) : totIs (l.take k) + (l.length - k) ≤ totIs l := by
  have e : totIs l = totIs (l.take k) + totIs (l.drop k) := by rw [← totIs_append, List.take_append_drop]
  have := totIs_len (l.drop k)
  simp at this
  omega
set_option maxRecDepth 100000 in
theorem open_ins_at {H : Type} {enc : TypeId × Value → H} {w : World} {base : Nat} {spare : Nat → Bool} {held : Bool} (fuel : Nat) {cs : List Value} {y : DataW H × List MemPlace} (hf : DataW.trod enc Tryd.prog w base spare held fuel 189 cs = some y) : ∃ p, ∃ x : V7, cs = x.cells ∧ IcIs AnyB w x p := by
  have hl := struct_len Tryd.underlying189 hf
  obtain ⟨m0, y0, l0, h0⟩ := field_of Tryd.underlying189 hf 0 _ rfl
  obtain ⟨m1, y1, l1, h1⟩ := field_of Tryd.underlying189 hf 1 _ rfl
  obtain ⟨m2, y2, l2, h2⟩ := field_of Tryd.underlying189 hf 2 _ rfl
  obtain ⟨m3, y3, l3, h3⟩ := field_of Tryd.underlying189 hf 3 _ rfl
  replace h0 : DataW.trod enc Tryd.prog w base spare held m0 3 ((cs.drop 0).take (Tryd.prog.cellsOf 3)) = some y0 := h0
  replace h1 : DataW.trod enc Tryd.prog w base spare held m1 3 ((cs.drop 1).take (Tryd.prog.cellsOf 3)) = some y1 := h1
  replace h2 : DataW.trod enc Tryd.prog w base spare held m2 98 ((cs.drop 2).take (Tryd.prog.cellsOf 98)) = some y2 := h2
  replace h3 : DataW.trod enc Tryd.prog w base spare held m3 3 ((cs.drop 6).take (Tryd.prog.cellsOf 3)) = some y3 := h3
  rw [show Tryd.prog.cellsOf 189 = 7 from by kernel_rfl] at hl
  rw [show Tryd.prog.cellsOf 3 = 1 from by kernel_rfl] at h0 h1 h3
  rw [show Tryd.prog.cellsOf 98 = 4 from by kernel_rfl] at h2
  match cs, hl with
  | [c0, c1, c2, c3, c4, c5, c6], _ =>
    simp only [List.drop_zero, List.drop_succ_cons, List.take_succ_cons, List.take_zero] at h0 h1 h2 h3
    obtain ⟨n0, e0, _, w0⟩ := DataW.trod_int Tryd.underlying3 h0
    obtain ⟨n1, e1, _, w1⟩ := DataW.trod_int Tryd.underlying3 h1
    obtain ⟨t, ht⟩ := open_term_at _ h2
    obtain ⟨k2, n2, s2, A2, p2, q2, e2⟩ := ht.form
    obtain ⟨n3, e3, _, w3⟩ := DataW.trod_int Tryd.underlying3 h3
    rw [e2] at ht
    simp only [List.cons.injEq, and_true] at e0 e1 e2 e3
    obtain ⟨g2, g3, g4, g5⟩ := e2
    subst e0 e1 g2 g3 g4 g5 e3
    exact ⟨⟨n0, n1, t, n3⟩, ⟨n0, n1, k2, n2, s2, A2, p2, q2, n3⟩, rfl, rfl, rfl, rfl, i64in_of w0, i64in_of w1, i64in_of w3, ht⟩
theorem icRow_of {w : World} {v : Value} {l : List Ic} (h : IsRowsR 7 (fun cs g => ∃ x : V7, cs = x.cells ∧ IcIs AnyB w x g) w v l) : ∃ A c, v = .slice A l.length c ∧ l.length ≤ c ∧ c ≤ maxLen ∧ IcRow AnyB w A l := by
  obtain ⟨A, c, cs, rfl, h1, h2, rd, hx⟩ := h
  obtain ⟨xs, hl, hxs⟩ := list_of l.length (fun i (x : V7) => (cs.drop (i * 7)).take 7 = x.cells ∧ ∀ h : i < l.length, IcIs AnyB w x l[i]) (fun i hi => by obtain ⟨x, e, hx'⟩ := hx i hi; exact ⟨x, e, fun _ => hx'⟩)
  refine ⟨A, c, rfl, h1, h2, xs, hl, ?_, fun _ _ _ _ => trivial, fun i h h' => (hxs i h').2 h⟩
  have e : cs = xs.flatMap V7.cells := by
    apply List.ext_getElem?
    intro j
    by_cases hj : j < l.length * 7
    · have e1 : j = (j / 7) * 7 + j % 7 := by omega
      have hk : j / 7 < xs.length := by omega
      rw [e1, chunk_get (by omega) (hxs _ hk).1, flat_get V7.cells 7 v7_len _ _ _ hk (by omega)]
    · rw [List.getElem?_eq_none (by rw [rd.1]; omega), List.getElem?_eq_none (by rw [flat_length V7.cells 7 v7_len]; omega)]
  rw [← e, hl]; exact rd
theorem strs_rows {w : World} {v : Value} {ss : List ByteArray} (h : IsRowsR 1 (fun cs s => cs = [Value.string s] ∧ s.size ≤ maxLen) w v ss) : (∃ A c, v = .slice A ss.length c ∧ ss.length ≤ c ∧ c ≤ maxLen ∧ Rd w 1 A ss.length (ss.map Value.string)) ∧ ∀ s ∈ ss, s.size ≤ maxLen := by
  obtain ⟨⟨A, c, e, h1, h2, rd⟩, h3⟩ := h.rows (f := fun s => [Value.string s]) (G := fun s => s.size ≤ maxLen)
  refine ⟨⟨A, c, e, h1, h2, ?_⟩, h3⟩
  have e2 : ∀ l : List ByteArray, l.flatMap (fun s => [Value.string s]) = l.map Value.string := by
    intro l
    induction l with
    | nil => rfl
    | cons x r ih => rw [List.flatMap_cons, ih]; rfl
  rwa [e2] at rd
theorem open_strC_at {H : Type} {enc : TypeId × Value → H} {w : World} {base : Nat} {spare : Nat → Bool} {held : Bool} {n : Nat} {cs : List Value} {y : DataW H × List MemPlace} (h : DataW.trod enc Tryd.prog w base spare held n 9 cs = some y) : ∃ s, cs = [Value.string s] ∧ s.size ≤ maxLen := by
  obtain ⟨s1, e1, _, w1⟩ := DataW.trod_string Tryd.underlying9 h
  exact ⟨s1, e1, w1⟩
set_option maxRecDepth 100000 in
theorem open_cod {H : Type} {enc : TypeId × Value → H} {w : World} {r : Reach} {b0 base : Nat} {spare : Nat → Bool} {held : Bool} {v : Value} {d : DataW H} {p : List MemPlace} (hv : Value.okWide Tryd.prog w r b0 54 v) (h : DataW.Trod enc Tryd.prog w base spare held 54 v d p) : ∃ q, IsCode w v q := by
  obtain ⟨cs, rfl, hsz⟩ := Go.WideShapes.okWide_struct Tryd.underlying54 hv
  obtain ⟨fuel, hf⟩ := h
  have hl := struct_len Tryd.underlying54 hf
  obtain ⟨m0, y0, l0, h0⟩ := field_of Tryd.underlying54 hf 0 _ rfl
  obtain ⟨m1, y1, l1, h1⟩ := field_of Tryd.underlying54 hf 1 _ rfl
  obtain ⟨m2, y2, l2, h2⟩ := field_of Tryd.underlying54 hf 2 _ rfl
  obtain ⟨m3, y3, l3, h3⟩ := field_of Tryd.underlying54 hf 3 _ rfl
  obtain ⟨m4, y4, l4, h4⟩ := field_of Tryd.underlying54 hf 4 _ rfl
  replace h0 : DataW.trod enc Tryd.prog w base spare held m0 44 (((Value.agg cs).cells.toList.drop 0).take (Tryd.prog.cellsOf 44)) = some y0 := h0
  replace h1 : DataW.trod enc Tryd.prog w base spare held m1 44 (((Value.agg cs).cells.toList.drop 1).take (Tryd.prog.cellsOf 44)) = some y1 := h1
  replace h2 : DataW.trod enc Tryd.prog w base spare held m2 44 (((Value.agg cs).cells.toList.drop 2).take (Tryd.prog.cellsOf 44)) = some y2 := h2
  replace h3 : DataW.trod enc Tryd.prog w base spare held m3 51 (((Value.agg cs).cells.toList.drop 3).take (Tryd.prog.cellsOf 51)) = some y3 := h3
  replace h4 : DataW.trod enc Tryd.prog w base spare held m4 52 (((Value.agg cs).cells.toList.drop 4).take (Tryd.prog.cellsOf 52)) = some y4 := h4
  rw [show Tryd.prog.cellsOf 54 = 5 from by kernel_rfl] at hl
  rw [show Tryd.prog.cellsOf 44 = 1 from by kernel_rfl] at h0 h1 h2
  rw [show Tryd.prog.cellsOf 51 = 1 from by kernel_rfl] at h3
  rw [show Tryd.prog.cellsOf 52 = 1 from by kernel_rfl] at h4
  have hcs : (Value.agg cs).cells.toList = cs.toList := by simp [Value.cells]
  rw [hcs] at hl h0 h1 h2 h3 h4
  generalize hL : cs.toList = L at *
  match L, hl with
  | [c0, c1, c2, c3, c4], _ =>
    simp only [List.drop_zero, List.drop_succ_cons, List.take_succ_cons, List.take_zero] at h0 h1 h2 h3 h4
    obtain ⟨v0, s0, e0, r0⟩ := open_cells (R := fun cs s => cs = [Value.string s] ∧ s.size ≤ maxLen) (by decide) Tryd.underlying44 (by kernel_rfl : Tryd.prog.cellsOf 9 = 1) h0 (fun n cs' y' hn hy => open_strC_at hy)
    obtain ⟨v1, s1, e1, r1⟩ := open_cells (R := fun cs s => cs = [Value.string s] ∧ s.size ≤ maxLen) (by decide) Tryd.underlying44 (by kernel_rfl : Tryd.prog.cellsOf 9 = 1) h1 (fun n cs' y' hn hy => open_strC_at hy)
    obtain ⟨v2, s2, e2, r2⟩ := open_cells (R := fun cs s => cs = [Value.string s] ∧ s.size ≤ maxLen) (by decide) Tryd.underlying44 (by kernel_rfl : Tryd.prog.cellsOf 9 = 1) h2 (fun n cs' y' hn hy => open_strC_at hy)
    obtain ⟨v3, s3, e3, r3, z3⟩ := open_ints_at h3
    obtain ⟨v4, s4, e4, r4⟩ := open_cells (R := fun cs g => ∃ x : V7, cs = x.cells ∧ IcIs AnyB w x g) (by decide) Tryd.underlying52 (by kernel_rfl : Tryd.prog.cellsOf 189 = 7) h4 (fun n cs' y' hn hy => open_ins_at n hy)
    obtain ⟨⟨A0, q0, rfl, a1, a2, a3⟩, a4⟩ := strs_rows r0
    obtain ⟨⟨A1, q1, rfl, b1, b2, b3⟩, b4⟩ := strs_rows r1
    obtain ⟨⟨A2, q2, rfl, d1, d2, d3⟩, d4⟩ := strs_rows r2
    obtain ⟨A3, q3, rfl, f1, f2, f3⟩ := r3
    obtain ⟨A4, q4, rfl, g1, g2, g3⟩ := icRow_of r4
    simp only [List.cons.injEq, and_true] at e0 e1 e2 e3 e4
    subst e0 e1 e2 e3 e4
    refine ⟨⟨s0, s1, s2, s3, s4⟩, ⟨A0, q0, A1, q1, A2, q2, A3, q3, A4, q4⟩, ?_, ⟨a1, a2, a3, a4, b1, b2, b3, b4, d1, d2, d3, d4, f1, f2, f3, fun z hz => z3 z hz, g1, g2, g3⟩⟩
    have : cs = #[.slice A0 s0.length q0, .slice A1 s1.length q1, .slice A2 s2.length q2, .slice A3 s3.length q3, .slice A4 s4.length q4] := by
      apply Array.ext'
      rw [hL]
    rw [this]
    rfl
end Go.Proofs.YtefcdpkficojgaaDoor
