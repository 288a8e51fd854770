/- Lemmas for the row. -/
import Derived.Test.YtnmblfonmfjoeaaGreatDoorKc11
namespace Go.Proofs.YtnmblfonmfjoeaaGreatDoor
open Go.RowKit
set_option linter.unusedVariables false
inductive StO (w : World) : (Nat → Prop) → V8 → St → Prop
 | mk (F T B E : Nat → Prop) (x : V8) (t : Tm) (xb : List V8) (GB : Nat → Nat → Prop) (body : List St) (xe : List V8) (GE : Nat → Nat → Prop) (els : List St) (hk : i64in x.k) (hs : x.s.size ≤ maxLen) (ht : TmO w T x.term t)
   (hb1 : x.bm = body.length) (hb2 : body.length ≤ x.bc) (hb3 : x.bc ≤ maxLen) (hb4 : xb.length = body.length) (rb : RowO w B 8 x.bA body.length (xb.flatMap V8.cells) GB) (hxb : ∀ i (h : i < body.length) (h' : i < xb.length), StO w (GB i) xb[i] body[i])
   (he1 : x.em = els.length) (he2 : els.length ≤ x.ec) (he3 : x.ec ≤ maxLen) (he4 : xe.length = els.length) (re : RowO w E 8 x.eA els.length (xe.flatMap V8.cells) GE) (hxe : ∀ i (h : i < els.length) (h' : i < xe.length), StO w (GE i) xe[i] els[i])
   (sT : ∀ b, T b → F b) (sB : ∀ b, B b → F b) (sE : ∀ b, E b → F b) (dTB : ∀ b, T b → B b → False) (dTE : ∀ b, T b → E b → False) (dBE : ∀ b, B b → E b → False) :
   StO w F x (.mk x.k x.s t body els)
def StP (w : World) (G : Nat → Prop) (cells : List Value) (g : St) : Prop := ∃ x : V8, cells = x.cells ∧ StO w G x g
abbrev StRowO (w : World) (F : Nat → Prop) (A : Option Addr) (l : List St) : Prop := RowOf StP w F 8 A l
theorem stRowO_of {w : World} {F : Nat → Prop} {A : Option Addr} {l : List St} {xs : List V8} {G : Nat → Nat → Prop} (hl : xs.length = l.length) (r : RowO w F 8 A l.length (xs.flatMap V8.cells) G) (hx : ∀ i (h : i < l.length) (h' : i < xs.length), StO w (G i) xs[i] l[i]) : StRowO w F A l :=
 ⟨_, G, r, fun i h => ⟨xs[i], flat_chunk V8.cells 8 v8_len xs i (by omega), hx i h (by omega)⟩⟩
theorem stRowO_to {w : World} {F : Nat → Prop} {A : Option Addr} {l : List St} (h : StRowO w F A l) : ∃ (xs : List V8) (G : Nat → Nat → Prop), xs.length = l.length ∧ RowO w F 8 A l.length (xs.flatMap V8.cells) G ∧ ∀ i (h : i < l.length) (h' : i < xs.length), StO w (G i) xs[i] l[i] := by
 obtain ⟨cs, G, r, hx⟩ := h
 obtain ⟨xs, hl, hxs⟩ := list_of l.length (fun i (x : V8) => (cs.drop (i * 8)).take 8 = x.cells ∧ ∀ h : i < l.length, StO w (G i) x l[i]) (fun i hi => by obtain ⟨x, e, hx'⟩ := hx i hi; exact ⟨x, e, fun _ => hx'⟩)
 have e : cs = xs.flatMap V8.cells := by
  apply List.ext_getElem?
  intro j
  by_cases hj : j < l.length * 8
  ·have e1 : j = (j / 8) * 8 + j % 8 := by omega
   have hk : j / 8 < xs.length := by omega
   rw [e1, chunk_get (by omega) (hxs _ hk).1, flat_get V8.cells 8 v8_len _ _ _ hk (by omega)]
  ·rw [List.getElem?_eq_none (by rw [r.1.1]; omega), List.getElem?_eq_none (by rw [flat_length V8.cells 8 v8_len]; omega)]
 exact ⟨xs, G, hl, by rw [← e]; exact r, fun i h h' => (hxs i h').2 h⟩
theorem StO.inv {F : Nat → Prop} {w : World} {x : V8} {g : St} (h : StO w F x g) :
  ∃ T B E t body els, g = .mk x.k x.s t body els ∧ i64in x.k ∧ x.s.size ≤ maxLen ∧ TmO w T x.term t ∧ x.bm = body.length ∧ body.length ≤ x.bc ∧ x.bc ≤ maxLen ∧ StRowO w B x.bA body ∧ x.em = els.length ∧ els.length ≤ x.ec ∧ x.ec ≤ maxLen ∧ StRowO w E x.eA els ∧
   (∀ b, T b → F b) ∧ (∀ b, B b → F b) ∧ (∀ b, E b → F b) ∧ (∀ b, T b → B b → False) ∧ (∀ b, T b → E b → False) ∧ (∀ b, B b → E b → False) := by
 cases h with
 | mk _ T B E _ t xb GB body xe GE els hk hs ht hb1 hb2 hb3 hb4 rb hxb he1 he2 he3 he4 re hxe sT sB sE dTB dTE dBE =>
  exact ⟨T, B, E, t, body, els, rfl, hk, hs, ht, hb1, hb2, hb3, stRowO_of hb4 rb hxb, he1, he2, he3, stRowO_of he4 re hxe, sT, sB, sE, dTB, dTE, dBE⟩
theorem StO.mk' {F T B E : Nat → Prop} {w : World} {x : V8} {t : Tm} {body els : List St} (hk : i64in x.k) (hs : x.s.size ≤ maxLen) (ht : TmO w T x.term t) (hb1 : x.bm = body.length) (hb2 : body.length ≤ x.bc) (hb3 : x.bc ≤ maxLen) (rb : StRowO w B x.bA body) (he1 : x.em = els.length) (he2 : els.length ≤ x.ec) (he3 : x.ec ≤ maxLen) (re : StRowO w E x.eA els)
  (sT : ∀ b, T b → F b) (sB : ∀ b, B b → F b) (sE : ∀ b, E b → F b) (dTB : ∀ b, T b → B b → False) (dTE : ∀ b, T b → E b → False) (dBE : ∀ b, B b → E b → False) : StO w F x (.mk x.k x.s t body els) := by
 obtain ⟨xb, GB, hb4, rb, hxb⟩ := stRowO_to rb
 obtain ⟨xe, GE, he4, re, hxe⟩ := stRowO_to re
 exact .mk F T B E x t xb GB body xe GE els hk hs ht hb1 hb2 hb3 hb4 rb hxb he1 he2 he3 he4 re hxe sT sB sE dTB dTE dBE
theorem StO.sub {F F' : Nat → Prop} {w : World} {x : V8} {g : St} (h : StO w F x g) (hF : ∀ b, F b → F' b) : StO w F' x g := by
 cases h with
 | mk _ T B E _ t xb GB body xe GE els hk hs ht hb1 hb2 hb3 hb4 rb hxb he1 he2 he3 he4 re hxe sT sB sE dTB dTE dBE =>
  exact .mk F' T B E x t xb GB body xe GE els hk hs ht hb1 hb2 hb3 hb4 rb hxb he1 he2 he3 he4 re hxe (fun b h => hF b (sT b h)) (fun b h => hF b (sB b h)) (fun b h => hF b (sE b h)) dTB dTE dBE
theorem StO.keep {F : Nat → Prop} {w w' : World} {x : V8} {g : St} (h : StO w F x g) (hk : ∀ b, F b → w'.heap[b]? = w.heap[b]?) : StO w' F x g := by
 induction h with
 | mk F T B E x t xb GB body xe GE els h1 h2 ht hb1 hb2 hb3 hb4 rb hxb he1 he2 he3 he4 re hxe sT sB sE dTB dTE dBE ihb ihe =>
  exact .mk F T B E x t xb GB body xe GE els h1 h2 (ht.keep fun b hb => hk b (sT b hb)) hb1 hb2 hb3 hb4 (rb.keep fun b hb => hk b (sB b hb)) (fun i hi hi' => ihb i hi hi' fun b hb => hk b (sB b (rb.2.2.1 i b hi hb))) he1 he2 he3 he4 (re.keep fun b hb => hk b (sE b hb)) (fun i hi hi' => ihe i hi hi' fun b hb => hk b (sE b (re.2.2.1 i b hi hb))) sT sB sE dTB dTE dBE
theorem StP.keepP : ∀ w w' G cells x, StP w G cells x → (∀ b, G b → w'.heap[b]? = w.heap[b]?) → StP w' G cells x := fun _ _ _ _ _ ⟨x, e, h⟩ hk => ⟨x, e, h.keep hk⟩
theorem StRowO.keep {F : Nat → Prop} {w w' : World} {A : Option Addr} {l : List St} (h : StRowO w F A l) (hk : ∀ b, F b → w'.heap[b]? = w.heap[b]?) : StRowO w' F A l := by
 obtain ⟨cs, G, row, hx⟩ := h
 exact ⟨cs, G, row.keep hk, fun i hi => StP.keepP _ _ _ _ _ (hx i hi) fun b hb => hk b (row.2.2.1 i b hi hb)⟩
theorem StRowO.sub {F F' : Nat → Prop} {w : World} {A : Option Addr} {l : List St} (h : StRowO w F A l) (hF : ∀ b, F b → F' b) : StRowO w F' A l := by
 obtain ⟨cs, G, r, hx⟩ := h
 exact ⟨cs, G, r.sub hF, hx⟩
theorem StO.is {F : Nat → Prop} {w : World} {x : V8} {g : St} (h : StO w F x g) : StIs (Pl w F) w x g := by
 induction h with
 | mk F T B E x t xb GB body xe GE els h1 h2 ht hb1 hb2 hb3 hb4 rb hxb he1 he2 he3 he4 re hxe sT sB sE dTB dTE dBE ihb ihe =>
  refine .mk x t xb body xe els h1 h2 (ht.is.keep (fun _ _ _ => rfl) (fun b _ ⟨q1, q2⟩ => ⟨sT b q1, q2⟩)) hb1 hb2 hb3 hb4 (by rw [hb4]; exact rb.1) (fun b off e hn => ?_) (fun i hi hi' => (ihb i hi hi').keep (fun _ _ _ => rfl) (fun b _ ⟨q1, q2⟩ => ⟨sB b (rb.2.2.1 i b hi q1), q2⟩)) he1 he2 he3 he4 (by rw [he4]; exact re.1) (fun b off e hn => ?_) (fun i hi hi' => (ihe i hi hi').keep (fun _ _ _ => rfl) (fun b _ ⟨q1, q2⟩ => ⟨sE b (re.2.2.1 i b hi q1), q2⟩))
  ·rw [e] at rb
   have := (rb.lt hn).2
   exact ⟨sB b this.1, this.2⟩
  ·rw [e] at re
   have := (re.lt hn).2
   exact ⟨sE b this.1, this.2⟩
theorem StRowO.is {F : Nat → Prop} {w : World} {A : Option Addr} {l : List St} (h : StRowO w F A l) : StRow (Pl w F) w A l := by
 obtain ⟨xs, G, hl, row, hx⟩ := stRowO_to h
 refine ⟨xs, hl, by rw [hl]; exact row.1, fun b off e hn => ?_, fun i hi hi' => (hx i hi hi').is.keep (fun _ _ _ => rfl) (fun b _ ⟨q1, q2⟩ => ⟨row.2.2.1 i b hi q1, q2⟩)⟩
 subst e
 exact (row.lt hn).2
theorem StRowO.any {F : Nat → Prop} {w : World} {A : Option Addr} {l : List St} (h : StRowO w F A l) : StRow AnyB w A l := h.is.any
theorem StO.any {F : Nat → Prop} {w : World} {x : V8} {g : St} (h : StO w F x g) : StIs AnyB w x g := h.is.any
theorem StRowO.fr {F : Nat → Prop} {lo : Nat} {w : World} {A : Option Addr} {l : List St} (h : StRowO w F A l) (hF : ∀ b, F b → lo ≤ b) : StRow (Fr lo w) w A l := h.is.keep (fun _ _ _ => rfl) (fun b _ ⟨q1, q2⟩ => ⟨hF b q1, q2⟩)
theorem StO.set {w : World} {F : Nat → Prop} {x : V8} {g : St} (h : StO w F x g) {p : Addr} (hp : ¬ F p.block) (u : Value) : StO (w.setCell p u) F x g := h.keep fun b hb => Below.heap_setCell w p u b (fun e => hp (by rw [← e]; exact hb))
theorem StRowO.set {w : World} {F : Nat → Prop} {A : Option Addr} {l : List St} (h : StRowO w F A l) {p : Addr} (hp : ¬ F p.block) (u : Value) : StRowO (w.setCell p u) F A l := h.keep fun b hb => Below.heap_setCell w p u b (fun e => hp (by rw [← e]; exact hb))
theorem StO.put8 {w : World} {F : Nat → Prop} {y : V8} {t : St} (h : StO w F y t) {g : Nat} (hg : ¬ F g) (o : Nat) (x : V8) : StO (put8 w g o x) F y t :=
 (((((((h.set (p := ⟨g, o, none⟩) hg _).set (p := ⟨g, o + 1, none⟩) hg _).set (p := ⟨g, o + 2, none⟩) hg _).set (p := ⟨g, o + 3, none⟩) hg _).set (p := ⟨g, o + 4, none⟩) hg _).set (p := ⟨g, o + 5, none⟩) hg _).set (p := ⟨g, o + 6, none⟩) hg _).set (p := ⟨g, o + 7, none⟩) hg _
def Later (w : World) : Type := { w' : World // Below w.heap.size w w' }
instance later_any (w : World) : Nonempty (Later w) := ⟨⟨w, Below.refl _ _⟩⟩
theorem wp_region_later {P : Program} {id : Nat} {Q : Exit → Act → World → Prop} {a : Act} {w : World} {l : List Oper} (hm : P.follows .mixedOrders = true) (hB : Region.lexB .any l.toArray = true)
  (h : ∀ (g : Later w → World), (∀ n, Below w.heap.size w (g n)) → (∀ n w', Below (g n).heap.size (g n) w' → ∃ m, w' = g m) →
   wpQuiet P l.toArray (fun w' => ∃ n, w' = g n) (fun a' => ∀ w', (∃ n, w' = g n) → Q .normal a' w') l a) : (Code.region id l.toArray true).wp P Q a w :=
 wp_region_quiet (C := fun w' => ∃ n : Later w, w' = n.val) hm hB ⟨⟨_, (Below.refl w.heap.size w).drew⟩, rfl⟩
  (by simpa using h (fun n => n.val) (fun n => n.property) (fun n w' hw => ⟨⟨w', n.property.trans (hw.mono n.property.size)⟩, rfl⟩))
theorem later_of {P : Program} {f : FuncId} {args : Array Value} {w : World} {g : Later w → World} {n : Later w} {v : Value} (HC : Hid (∀ n w', Below (g n).heap.size (g n) w' → ∃ m, w' = g m))
  (h : Calls P f args (g n) fun e w' => e = .returned v ∧ Below (g n).heap.size (g n) w') : Calls P f args (g n) fun e w'' => e = .returned v ∧ ∃ m, w'' = g m :=
 h.mono fun _ _ ⟨he, hb⟩ => ⟨he, HC.out n _ hb⟩
theorem later_same {P : Program} {f : FuncId} {args : Array Value} {w : World} {g : Later w → World} {n : Later w} {v : Value}
  (h : Calls P f args (g n) fun e w' => e = .returned v ∧ g n = w') : Calls P f args (g n) fun e w'' => e = .returned v ∧ ∃ m, w'' = g m :=
 h.mono fun _ _ ⟨he, hw⟩ => ⟨he, n, hw.symm⟩
structure Pr where
 name : ByteArray
 body : List St
structure Pg where
 globals : List ByteArray
 locks : List ByteArray
 procs : List Pr
structure V2 where
 s : ByteArray
 A : Option Addr
 m : Nat
 c : Nat
def V2.cells (x : V2) : List Value := [.string x.s, .slice x.A x.m x.c]
theorem v2_len (x : V2) : x.cells.length = 2 := rfl
def z2 : V2 := ⟨ByteArray.empty, none, 0, 0⟩
def PrIs (w : World) (x : V2) (p : Pr) : Prop := p.name = x.s ∧ x.m = p.body.length ∧ x.s.size ≤ maxLen ∧ p.body.length ≤ x.c ∧ x.c ≤ maxLen ∧ StRow AnyB w x.A p.body
def PrRow (w : World) (A : Option Addr) (l : List Pr) : Prop := ∃ xs : List V2, xs.length = l.length ∧ Rd w 2 A xs.length (xs.flatMap V2.cells) ∧ ∀ i (h : i < l.length) (h' : i < xs.length), PrIs w xs[i] l[i]
theorem PrIs.belowA {w w' : World} {x : V2} {p : Pr} (h : PrIs w x p) (hb : Below w.heap.size w w') : PrIs w' x p := ⟨h.1, h.2.1, h.2.2.1, h.2.2.2.1, h.2.2.2.2.1, h.2.2.2.2.2.belowA hb⟩
theorem PrRow.belowA {w w' : World} {A : Option Addr} {l : List Pr} (h : PrRow w A l) (hb : Below w.heap.size w w') : PrRow w' A l := by
 obtain ⟨xs, h1, rd, hx⟩ := h
 exact ⟨xs, h1, rd.below hb, fun i h h' => (hx i h h').belowA hb⟩
theorem PrRow.drew {w : World} {A : Option Addr} {l : List Pr} (h : PrRow w A l) : PrRow w.drew A l := h.belowA (Below.refl _ _).drew
theorem rd_proc {w : World} {A : Option Addr} {l : List Pr} (row : PrRow w A l) {k : Nat} (hk : k < l.length) :
  ∃ b off x, A = some ⟨b, off, none⟩ ∧ w.cell? ⟨b, off + k * 2, none⟩ = some (.string x.s) ∧ w.cell? ⟨b, off + k * 2 + 1, none⟩ = some (.slice x.A x.m x.c) ∧ PrIs w x l[k] := by
 obtain ⟨xs, hl, rd, hx⟩ := row
 have hk' : k < xs.length := by omega
 obtain ⟨b, off, e, hc⟩ := rd_flat v2_len rd hk'
 exact ⟨b, off, xs[k], e, hc 0 _ (by decide) rfl, hc 1 _ (by decide) rfl, hx k hk hk'⟩
structure V3 where
 gA : Option Addr
 gc : Nat
 lA : Option Addr
 lc : Nat
 pA : Option Addr
 pc : Nat
def V3.val (x : V3) (p : Pg) : Value := .agg #[.slice x.gA p.globals.length x.gc, .slice x.lA p.locks.length x.lc, .slice x.pA p.procs.length x.pc]
structure PgIs (w : World) (x : V3) (p : Pg) : Prop where
 g1 : p.globals.length ≤ x.gc
 g2 : x.gc ≤ maxLen
 g3 : Rd w 1 x.gA p.globals.length (p.globals.map Value.string)
 g4 : ∀ s ∈ p.globals, s.size ≤ maxLen
 l1 : p.locks.length ≤ x.lc
 l2 : x.lc ≤ maxLen
 l3 : Rd w 1 x.lA p.locks.length (p.locks.map Value.string)
 l4 : ∀ s ∈ p.locks, s.size ≤ maxLen
 p1 : p.procs.length ≤ x.pc
 p2 : x.pc ≤ maxLen
 p3 : PrRow w x.pA p.procs
theorem PgIs.belowA {w w' : World} {x : V3} {p : Pg} (h : PgIs w x p) (hb : Below w.heap.size w w') : PgIs w' x p := ⟨h.g1, h.g2, h.g3.below hb, h.g4, h.l1, h.l2, h.l3.below hb, h.l4, h.p1, h.p2, h.p3.belowA hb⟩
theorem PgIs.drew {w : World} {x : V3} {p : Pg} (h : PgIs w x p) : PgIs w.drew x p := h.belowA (Below.refl _ _).drew
theorem PgIs.gs {w : World} {x : V3} {p : Pg} (h : PgIs w x p) : IsStrs w (.slice x.gA p.globals.length x.gc) p.globals := ⟨_, _, rfl, h.g1, h.g2, h.g3⟩
theorem PgIs.ls {w : World} {x : V3} {p : Pg} (h : PgIs w x p) : IsStrs w (.slice x.lA p.locks.length x.lc) p.locks := ⟨_, _, rfl, h.l1, h.l2, h.l3⟩
def totPr (p : Pr) : Nat := p.name.size + totGs p.body
def totPrs : List Pr → Nat | [] => 0 | p :: r => 1 + totPr p + totPrs r
def totPg (p : Pg) : Nat := totS p.globals + totS p.locks + totPrs p.procs
theorem totPrs_le {l : List Pr} {x : Pr} (h : x ∈ l) : totPr x ≤ totPrs l := by
 induction l with
 | nil => cases h
 | cons y r ih =>
  rw [totPrs]
  rcases List.mem_cons.1 h with rfl | h
  ·omega
  ·have := ih h; omega
theorem totPrs_append (l r : List Pr) : totPrs (l ++ r) = totPrs l + totPrs r := by
 induction l with
 | nil => simp [totPrs]
 | cons y t ih => rw [List.cons_append, totPrs, totPrs, ih]; omega
theorem totPrs_take (l : List Pr) (k : Nat) (h : k < l.length) : totPrs (l.take (k + 1)) = totPrs (l.take k) + 1 + totPr l[k] := by
 have e : l.take (k + 1) = l.take k ++ [l[k]] := List.take_succ_eq_append_getElem h
 rw [e, totPrs_append, totPrs, totPrs]; omega
end Go.Proofs.YtnmblfonmfjoeaaGreatDoor
