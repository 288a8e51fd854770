/- Lemmas for the row. -/
import Derived.Test.YtnmblfonmfjoeaaGreatDoorKc4
namespace Go.Proofs.YtnmblfonmfjoeaaGreatDoor
open Go.RowKit
set_option linter.unusedVariables false
structure Ic where
 op : Int
 arg : Int
 term : Tm
 to : Int
structure Cd where
 globals : List ByteArray
 locks : List ByteArray
 procs : List ByteArray
 entry : List Int
 ins : List Ic
structure V7 where
 op : Int
 arg : Int
 k : Int
 n : Int
 s : ByteArray
 A : Option Addr
 m : Nat
 c : Nat
 to : Int
def V7.cells (x : V7) : List Value := [.int .i64 x.op, .int .i64 x.arg, .int .i64 x.k, .int .i64 x.n, .string x.s, .slice x.A x.m x.c, .int .i64 x.to]
def V7.term (x : V7) : List Value := [.int .i64 x.k, .int .i64 x.n, .string x.s, .slice x.A x.m x.c]
def V7.val (x : V7) : Value := .agg #[.int .i64 x.op, .int .i64 x.arg, .int .i64 x.k, .int .i64 x.n, .string x.s, .slice x.A x.m x.c, .int .i64 x.to]
theorem v7_len (x : V7) : x.cells.length = 7 := rfl
def z7 : V7 := ⟨0, 0, 0, 0, ByteArray.empty, none, 0, 0, 0⟩
def IcIs (F : Nat → Prop) (w : World) (x : V7) (i : Ic) : Prop := x.op = i.op ∧ x.arg = i.arg ∧ x.to = i.to ∧ i64in i.op ∧ i64in i.arg ∧ i64in i.to ∧ TmIs F w x.term i.term
def IcRow (F : Nat → Prop) (w : World) (A : Option Addr) (l : List Ic) : Prop :=
 ∃ xs : List V7, xs.length = l.length ∧ Rd w 7 A xs.length (xs.flatMap V7.cells) ∧ (∀ b off, A = some ⟨b, off, none⟩ → 0 < l.length → F b) ∧ ∀ i (h : i < l.length) (h' : i < xs.length), IcIs F w xs[i] l[i]
theorem IcIs.keep {F F' : Nat → Prop} {w w' : World} {x : V7} {i : Ic} (h : IcIs F w x i) (hk : ∀ p : Addr, p.block < w.heap.size → F p.block → w'.cell? p = w.cell? p) (hF : ∀ b, b < w.heap.size → F b → F' b) : IcIs F' w' x i :=
 ⟨h.1, h.2.1, h.2.2.1, h.2.2.2.1, h.2.2.2.2.1, h.2.2.2.2.2.1, h.2.2.2.2.2.2.keep hk hF⟩
theorem rd_keepB {F F' : Nat → Prop} {w w' : World} {sz n : Nat} {A : Option Addr} {cs : List Value} (hsz : 0 < sz) (rd : Rd w sz A n cs) (hf : ∀ b off, A = some ⟨b, off, none⟩ → 0 < n → F b) (hk : ∀ p : Addr, p.block < w.heap.size → F p.block → w'.cell? p = w.cell? p) (hF : ∀ b, b < w.heap.size → F b → F' b) :
  Rd w' sz A n cs ∧ ∀ b off, A = some ⟨b, off, none⟩ → 0 < n → F' b := by
 refine ⟨⟨rd.1, fun hn => ?_⟩, fun b off e hn => ?_⟩
 ·obtain ⟨b, off, e, hcell⟩ := rd.2 hn
  exact ⟨b, off, e, fun j u hu => (hk _ (cell_lt (hcell j u hu)) (hf b off e hn)).trans (hcell j u hu)⟩
 ·obtain ⟨b', off', e', hcell⟩ := rd.2 hn
  rw [e'] at e
  injection e with e
  injection e with e1 e2
  subst e1 e2
  refine hF _ ?_ (hf _ _ e' hn)
  have h0 : 0 < cs.length := by rw [rd.1]; exact Nat.mul_pos hn hsz
  exact cell_lt (hcell 0 _ (List.getElem?_eq_getElem h0))
theorem IcRow.keep {F F' : Nat → Prop} {w w' : World} {A : Option Addr} {l : List Ic} (h : IcRow F w A l) (hk : ∀ p : Addr, p.block < w.heap.size → F p.block → w'.cell? p = w.cell? p) (hF : ∀ b, b < w.heap.size → F b → F' b) : IcRow F' w' A l := by
 obtain ⟨xs, hl, rd, hf, hx⟩ := h
 obtain ⟨q1, q2⟩ := rd_keepB (by decide) rd (fun b off e hn => hf b off e (by omega)) hk hF
 exact ⟨xs, hl, q1, fun b off e hn => q2 b off e (by omega), fun i h h' => (hx i h h').keep hk hF⟩
theorem IcIs.any {F : Nat → Prop} {w : World} {x : V7} {i : Ic} (h : IcIs F w x i) : IcIs AnyB w x i := h.keep (fun _ _ _ => rfl) (fun _ _ _ => trivial)
theorem IcRow.any {F : Nat → Prop} {w : World} {A : Option Addr} {l : List Ic} (h : IcRow F w A l) : IcRow AnyB w A l := h.keep (fun _ _ _ => rfl) (fun _ _ _ => trivial)
theorem IcIs.belowA {w w' : World} {x : V7} {i : Ic} (h : IcIs AnyB w x i) (hb : Below w.heap.size w w') : IcIs AnyB w' x i := h.keep (fun _ hp _ => hb.cell hp) (fun _ _ _ => trivial)
theorem IcRow.belowA {w w' : World} {A : Option Addr} {l : List Ic} (h : IcRow AnyB w A l) (hb : Below w.heap.size w w') : IcRow AnyB w' A l := h.keep (fun _ hp _ => hb.cell hp) (fun _ _ _ => trivial)
theorem IcIs.mono {lo lo' : Nat} {w : World} {x : V7} {i : Ic} (h : IcIs (Fr lo w) w x i) (hl : lo' ≤ lo) : IcIs (Fr lo' w) w x i := h.keep (fun _ _ _ => rfl) (fun b _ ⟨h1, h2⟩ => ⟨by omega, h2⟩)
theorem IcRow.mono {lo lo' : Nat} {w : World} {A : Option Addr} {l : List Ic} (h : IcRow (Fr lo w) w A l) (hl : lo' ≤ lo) : IcRow (Fr lo' w) w A l := h.keep (fun _ _ _ => rfl) (fun b _ ⟨h1, h2⟩ => ⟨by omega, h2⟩)
def Cells7 (w : World) (b o : Nat) (x : V7) : Prop := w.cell? ⟨b, o, none⟩ = some (.int .i64 x.op) ∧ w.cell? ⟨b, o + 1, none⟩ = some (.int .i64 x.arg) ∧ w.cell? ⟨b, o + 2, none⟩ = some (.int .i64 x.k) ∧ w.cell? ⟨b, o + 3, none⟩ = some (.int .i64 x.n) ∧ w.cell? ⟨b, o + 4, none⟩ = some (.string x.s) ∧ w.cell? ⟨b, o + 5, none⟩ = some (.slice x.A x.m x.c) ∧ w.cell? ⟨b, o + 6, none⟩ = some (.int .i64 x.to)
theorem rd_ins {F : Nat → Prop} {w : World} {A : Option Addr} {l : List Ic} (row : IcRow F w A l) {k : Nat} (hk : k < l.length) :
  ∃ b off x, A = some ⟨b, off, none⟩ ∧ F b ∧ Cells7 w b (off + k * 7) x ∧ IcIs F w x l[k] := by
 obtain ⟨xs, hl, rd, hF, hx⟩ := row
 have hk' : k < xs.length := by omega
 obtain ⟨b, off, e, hc⟩ := rd_flat v7_len rd hk'
 exact ⟨b, off, xs[k], e, hF b off e (by omega), ⟨hc 0 _ (by decide) rfl, hc 1 _ (by decide) rfl, hc 2 _ (by decide) rfl, hc 3 _ (by decide) rfl, hc 4 _ (by decide) rfl, hc 5 _ (by decide) rfl, hc 6 _ (by decide) rfl⟩, hx k hk hk'⟩
structure V5 where
 gA : Option Addr
 gc : Nat
 lA : Option Addr
 lc : Nat
 pA : Option Addr
 pc : Nat
 eA : Option Addr
 ec : Nat
 iA : Option Addr
 ic : Nat
def V5.cells (x : V5) (p : Cd) : List Value := [.slice x.gA p.globals.length x.gc, .slice x.lA p.locks.length x.lc, .slice x.pA p.procs.length x.pc, .slice x.eA p.entry.length x.ec, .slice x.iA p.ins.length x.ic]
def V5.val (x : V5) (p : Cd) : Value := .agg #[.slice x.gA p.globals.length x.gc, .slice x.lA p.locks.length x.lc, .slice x.pA p.procs.length x.pc, .slice x.eA p.entry.length x.ec, .slice x.iA p.ins.length x.ic]
structure CdIs (w : World) (x : V5) (p : Cd) : Prop where
 g1 : p.globals.length ≤ x.gc
 g2 : x.gc ≤ maxLen
 g3 : Rd w 1 x.gA p.globals.length (p.globals.map Value.string)
 g4 : ∀ s ∈ p.globals, s.size ≤ maxLen
 l1 : p.locks.length ≤ x.lc
 l2 : x.lc ≤ maxLen
 l3 : Rd w 1 x.lA p.locks.length (p.locks.map Value.string)
 l4 : ∀ s ∈ p.locks, s.size ≤ maxLen
 p1 : p.procs.length ≤ x.pc
 p2 : x.pc ≤ maxLen
 p3 : Rd w 1 x.pA p.procs.length (p.procs.map Value.string)
 p4 : ∀ s ∈ p.procs, s.size ≤ maxLen
 e1 : p.entry.length ≤ x.ec
 e2 : x.ec ≤ maxLen
 e3 : Rd w 1 x.eA p.entry.length (p.entry.map (Value.int .i64))
 e4 : ∀ z ∈ p.entry, i64in z
 i1 : p.ins.length ≤ x.ic
 i2 : x.ic ≤ maxLen
 i3 : IcRow AnyB w x.iA p.ins
theorem CdIs.belowA {w w' : World} {x : V5} {p : Cd} (h : CdIs w x p) (hb : Below w.heap.size w w') : CdIs w' x p := ⟨h.g1, h.g2, h.g3.below hb, h.g4, h.l1, h.l2, h.l3.below hb, h.l4, h.p1, h.p2, h.p3.below hb, h.p4, h.e1, h.e2, h.e3.below hb, h.e4, h.i1, h.i2, h.i3.belowA hb⟩
theorem CdIs.drew {w : World} {x : V5} {p : Cd} (h : CdIs w x p) : CdIs w.drew x p := h.belowA (Below.refl _ _).drew
theorem CdIs.gs {w : World} {x : V5} {p : Cd} (h : CdIs w x p) : IsStrs w (.slice x.gA p.globals.length x.gc) p.globals := ⟨_, _, rfl, h.g1, h.g2, h.g3⟩
theorem CdIs.ls {w : World} {x : V5} {p : Cd} (h : CdIs w x p) : IsStrs w (.slice x.lA p.locks.length x.lc) p.locks := ⟨_, _, rfl, h.l1, h.l2, h.l3⟩
theorem CdIs.ps {w : World} {x : V5} {p : Cd} (h : CdIs w x p) : IsStrs w (.slice x.pA p.procs.length x.pc) p.procs := ⟨_, _, rfl, h.p1, h.p2, h.p3⟩
theorem CdIs.es {w : World} {x : V5} {p : Cd} (h : CdIs w x p) : IsInts w (.slice x.eA p.entry.length x.ec) p.entry := ⟨_, _, rfl, h.e1, h.e2, h.e3⟩
def totIs : List Ic → Nat | [] => 0 | p :: r => 1 + totT p.term + totIs r
def totCd (p : Cd) : Nat := totS p.globals + totS p.locks + totS p.procs + p.entry.length + totIs p.ins
theorem totIs_le {l : List Ic} {x : Ic} (h : x ∈ l) : totT x.term ≤ totIs l := by
 induction l with
 | nil => cases h
 | cons y r ih =>
  rw [totIs]
  rcases List.mem_cons.1 h with rfl | h
  ·omega
  ·have := ih h; omega
theorem totIs_append (l r : List Ic) : totIs (l ++ r) = totIs l + totIs r := by
 induction l with
 | nil => simp [totIs]
 | cons y t ih => rw [List.cons_append, totIs, totIs, ih]; omega
inductive St where
 | mk (kind : Int) (name : ByteArray) (term : Tm) (body els : List St)
mutual
def snodes : St → Nat | .mk _ _ _ b e => 1 + snodess b + snodess e
def snodess : List St → Nat | [] => 0 | t :: r => snodes t + snodess r
end
theorem snodess_le {l : List St} {x : St} (h : x ∈ l) : snodes x ≤ snodess l := by
 induction l with
 | nil => cases h
 | cons y r ih =>
  rw [snodess]
  rcases List.mem_cons.1 h with rfl | h
  ·omega
  ·have := ih h; omega
mutual
def totG : St → Nat | .mk _ s t b e => s.size + totT t + totGs b + totGs e
def totGs : List St → Nat | [] => 0 | t :: r => 1 + totG t + totGs r
end
theorem totGs_len (l : List St) : l.length ≤ totGs l := by
 induction l with
 | nil => simp
 | cons y r ih => rw [totGs, List.length_cons]; omega
theorem totGs_append (l r : List St) : totGs (l ++ r) = totGs l + totGs r := by
 induction l with
 | nil => simp [totGs]
 | cons y t ih => rw [List.cons_append, totGs, totGs, ih]; omega
structure V8 where
 k : Int
 s : ByteArray
 tk : Int
 tn : Int
 ts : ByteArray
 tA : Option Addr
 tm : Nat
 tc : Nat
 bA : Option Addr
 bm : Nat
 bc : Nat
 eA : Option Addr
 em : Nat
 ec : Nat
def V8.cells (x : V8) : List Value := [.int .i64 x.k, .string x.s, .int .i64 x.tk, .int .i64 x.tn, .string x.ts, .slice x.tA x.tm x.tc, .slice x.bA x.bm x.bc, .slice x.eA x.em x.ec]
def V8.term (x : V8) : List Value := [.int .i64 x.tk, .int .i64 x.tn, .string x.ts, .slice x.tA x.tm x.tc]
def V8.val (x : V8) : Value := .agg #[.int .i64 x.k, .string x.s, .int .i64 x.tk, .int .i64 x.tn, .string x.ts, .slice x.tA x.tm x.tc, .slice x.bA x.bm x.bc, .slice x.eA x.em x.ec]
inductive StIs (F : Nat → Prop) (w : World) : V8 → St → Prop
 | mk (x : V8) (t : Tm) (xb : List V8) (body : List St) (xe : List V8) (els : List St) (hk : i64in x.k) (hs : x.s.size ≤ maxLen) (ht : TmIs F w x.term t)
   (hb1 : x.bm = body.length) (hb2 : body.length ≤ x.bc) (hb3 : x.bc ≤ maxLen) (hb4 : xb.length = body.length) (rdb : Rd w 8 x.bA xb.length (xb.flatMap V8.cells)) (hFb : ∀ b off, x.bA = some ⟨b, off, none⟩ → 0 < body.length → F b) (hxb : ∀ i (h : i < body.length) (h' : i < xb.length), StIs F w xb[i] body[i])
   (he1 : x.em = els.length) (he2 : els.length ≤ x.ec) (he3 : x.ec ≤ maxLen) (he4 : xe.length = els.length) (rde : Rd w 8 x.eA xe.length (xe.flatMap V8.cells)) (hFe : ∀ b off, x.eA = some ⟨b, off, none⟩ → 0 < els.length → F b) (hxe : ∀ i (h : i < els.length) (h' : i < xe.length), StIs F w xe[i] els[i]) :
   StIs F w x (.mk x.k x.s t body els)
def StRow (F : Nat → Prop) (w : World) (A : Option Addr) (l : List St) : Prop :=
 ∃ xs : List V8, xs.length = l.length ∧ Rd w 8 A xs.length (xs.flatMap V8.cells) ∧ (∀ b off, A = some ⟨b, off, none⟩ → 0 < l.length → F b) ∧ ∀ i (h : i < l.length) (h' : i < xs.length), StIs F w xs[i] l[i]
theorem StIs.inv {F : Nat → Prop} {w : World} {x : V8} {g : St} (h : StIs F w x g) :
  ∃ t body els, g = .mk x.k x.s t body els ∧ i64in x.k ∧ x.s.size ≤ maxLen ∧ TmIs F w x.term t ∧ x.bm = body.length ∧ body.length ≤ x.bc ∧ x.bc ≤ maxLen ∧ StRow F w x.bA body ∧ x.em = els.length ∧ els.length ≤ x.ec ∧ x.ec ≤ maxLen ∧ StRow F w x.eA els := by
 cases h with
 | mk x t xb body xe els hk hs ht hb1 hb2 hb3 hb4 rdb hFb hxb he1 he2 he3 he4 rde hFe hxe =>
  exact ⟨t, body, els, rfl, hk, hs, ht, hb1, hb2, hb3, ⟨xb, hb4, rdb, hFb, hxb⟩, he1, he2, he3, ⟨xe, he4, rde, hFe, hxe⟩⟩
theorem StIs.mk' {F : Nat → Prop} {w : World} {x : V8} {t : Tm} {body els : List St} (hk : i64in x.k) (hs : x.s.size ≤ maxLen) (ht : TmIs F w x.term t) (hb1 : x.bm = body.length) (hb2 : body.length ≤ x.bc) (hb3 : x.bc ≤ maxLen) (rb : StRow F w x.bA body)
  (he1 : x.em = els.length) (he2 : els.length ≤ x.ec) (he3 : x.ec ≤ maxLen) (re : StRow F w x.eA els) : StIs F w x (.mk x.k x.s t body els) := by
 obtain ⟨xb, hb4, rdb, hFb, hxb⟩ := rb
 obtain ⟨xe, he4, rde, hFe, hxe⟩ := re
 exact .mk x t xb body xe els hk hs ht hb1 hb2 hb3 hb4 rdb hFb hxb he1 he2 he3 he4 rde hFe hxe
theorem rd_keepF {F F' : Nat → Prop} {w w' : World} {sz n : Nat} {A : Option Addr} {cs : List Value} (hsz : 0 < sz) (rd : Rd w sz A n cs) (hf : ∀ b off, A = some ⟨b, off, none⟩ → 0 < n → F b) (hk : ∀ p : Addr, p.block < w.heap.size → F p.block → w'.cell? p = w.cell? p) (hF : ∀ b, b < w.heap.size → F b → F' b) :
  Rd w' sz A n cs ∧ ∀ b off, A = some ⟨b, off, none⟩ → 0 < n → F' b := by
 refine ⟨⟨rd.1, fun hn => ?_⟩, fun b off e hn => ?_⟩
 ·obtain ⟨b, off, e, hcell⟩ := rd.2 hn
  exact ⟨b, off, e, fun j u hu => (hk _ (cell_lt (hcell j u hu)) (hf b off e hn)).trans (hcell j u hu)⟩
 ·obtain ⟨b', off', e', hcell⟩ := rd.2 hn
  rw [e'] at e
  injection e with e
  injection e with e1 e2
  subst e1 e2
  refine hF _ ?_ (hf _ _ e' hn)
  have h0 : 0 < cs.length := by rw [rd.1]; exact Nat.mul_pos hn hsz
  exact cell_lt (hcell 0 _ (List.getElem?_eq_getElem h0))
theorem StIs.keep {F F' : Nat → Prop} {w w' : World} {x : V8} {g : St} (h : StIs F w x g) (hk : ∀ p : Addr, p.block < w.heap.size → F p.block → w'.cell? p = w.cell? p) (hF : ∀ b, b < w.heap.size → F b → F' b) : StIs F' w' x g := by
 induction h with
 | mk x t xb body xe els h1 h2 ht hb1 hb2 hb3 hb4 rdb hFb hxb he1 he2 he3 he4 rde hFe hxe ihb ihe =>
  obtain ⟨q1, q2⟩ := rd_keepF (by decide) rdb (fun b off e hn => hFb b off e (by omega)) hk hF
  obtain ⟨q3, q4⟩ := rd_keepF (by decide) rde (fun b off e hn => hFe b off e (by omega)) hk hF
  exact .mk x t xb body xe els h1 h2 (ht.keep hk hF) hb1 hb2 hb3 hb4 q1 (fun b off e hn => q2 b off e (by omega)) ihb he1 he2 he3 he4 q3 (fun b off e hn => q4 b off e (by omega)) ihe
theorem StRow.keep {F F' : Nat → Prop} {w w' : World} {A : Option Addr} {l : List St} (h : StRow F w A l) (hk : ∀ p : Addr, p.block < w.heap.size → F p.block → w'.cell? p = w.cell? p) (hF : ∀ b, b < w.heap.size → F b → F' b) : StRow F' w' A l := by
 obtain ⟨xs, hl, rd, hf, hx⟩ := h
 obtain ⟨q1, q2⟩ := rd_keepF (by decide) rd (fun b off e hn => hf b off e (by omega)) hk hF
 exact ⟨xs, hl, q1, fun b off e hn => q2 b off e (by omega), fun i h h' => (hx i h h').keep hk hF⟩
theorem StIs.any {F : Nat → Prop} {w : World} {x : V8} {g : St} (h : StIs F w x g) : StIs AnyB w x g := h.keep (fun _ _ _ => rfl) (fun _ _ _ => trivial)
theorem StRow.any {F : Nat → Prop} {w : World} {A : Option Addr} {l : List St} (h : StRow F w A l) : StRow AnyB w A l := h.keep (fun _ _ _ => rfl) (fun _ _ _ => trivial)
theorem StIs.belowA {w w' : World} {x : V8} {g : St} (h : StIs AnyB w x g) (hb : Below w.heap.size w w') : StIs AnyB w' x g := h.keep (fun _ hp _ => hb.cell hp) (fun _ _ _ => trivial)
theorem StRow.belowA {w w' : World} {A : Option Addr} {l : List St} (h : StRow AnyB w A l) (hb : Below w.heap.size w w') : StRow AnyB w' A l := h.keep (fun _ hp _ => hb.cell hp) (fun _ _ _ => trivial)
theorem StIs.drew {w : World} {x : V8} {g : St} (h : StIs AnyB w x g) : StIs AnyB w.drew x g := h.belowA (Below.refl _ _).drew
theorem StRow.drew {w : World} {A : Option Addr} {l : List St} (h : StRow AnyB w A l) : StRow AnyB w.drew A l := h.belowA (Below.refl _ _).drew
theorem StIs.mono {lo lo' : Nat} {w : World} {x : V8} {g : St} (h : StIs (Fr lo w) w x g) (hl : lo' ≤ lo) : StIs (Fr lo' w) w x g := h.keep (fun _ _ _ => rfl) (fun b _ ⟨h1, h2⟩ => ⟨by omega, h2⟩)
theorem StRow.mono {lo lo' : Nat} {w : World} {A : Option Addr} {l : List St} (h : StRow (Fr lo w) w A l) (hl : lo' ≤ lo) : StRow (Fr lo' w) w A l := h.keep (fun _ _ _ => rfl) (fun b _ ⟨h1, h2⟩ => ⟨by omega, h2⟩)
theorem v8_len (x : V8) : x.cells.length = 8 := rfl
theorem rd_stmt {F : Nat → Prop} {w : World} {A : Option Addr} {l : List St} (row : StRow F w A l) {k : Nat} (hk : k < l.length) :
  ∃ b off x, A = some ⟨b, off, none⟩ ∧ F b ∧ (w.cell? ⟨b, off + k * 8, none⟩ = some (.int .i64 x.k) ∧ w.cell? ⟨b, off + k * 8 + 1, none⟩ = some (.string x.s) ∧ w.cell? ⟨b, off + k * 8 + 2, none⟩ = some (.int .i64 x.tk) ∧ w.cell? ⟨b, off + k * 8 + 3, none⟩ = some (.int .i64 x.tn) ∧ w.cell? ⟨b, off + k * 8 + 4, none⟩ = some (.string x.ts) ∧ w.cell? ⟨b, off + k * 8 + 5, none⟩ = some (.slice x.tA x.tm x.tc) ∧ w.cell? ⟨b, off + k * 8 + 6, none⟩ = some (.slice x.bA x.bm x.bc) ∧ w.cell? ⟨b, off + k * 8 + 7, none⟩ = some (.slice x.eA x.em x.ec)) ∧ StIs F w x l[k] := by
 obtain ⟨xs, hl, rd, hF, hx⟩ := row
 have hk' : k < xs.length := by omega
 obtain ⟨b, off, e, hc⟩ := rd_flat v8_len rd hk'
 refine ⟨b, off, xs[k], e, hF b off e (by omega), ⟨?_, ?_, ?_, ?_, ?_, ?_, ?_, ?_⟩, hx k hk hk'⟩
 ·exact hc 0 _ (by decide) rfl
 ·exact hc 1 _ (by decide) rfl
 ·exact hc 2 _ (by decide) rfl
 ·exact hc 3 _ (by decide) rfl
 ·exact hc 4 _ (by decide) rfl
 ·exact hc 5 _ (by decide) rfl
 ·exact hc 6 _ (by decide) rfl
 ·exact hc 7 _ (by decide) rfl
end Go.Proofs.YtnmblfonmfjoeaaGreatDoor
