/- Several texts in one: StmtOwn. -/
import Derived.Test.YtadcebdhgocmhaaKs14
import Derived.Test.YtadcebdhgocmhaaKs16
namespace Go.Proofs.Ytadcebdhgocmhaa
open Go.RowKit
set_option linter.unusedVariables false


/-- a statement whose memory lies in blocks of F, each row apart -/
inductive StO (w : World) : (Nat → Prop) → V8 → St → Prop
  | mk (F T B E : Nat → Prop) (x : V8) (t : Tm) (xb : List V8) (GB : Nat → Nat → Prop) (body : List St) (xe : List V8) (GE : Nat → Nat → Prop) (els : List St) (hk : i64in x.k) (hs : x.s.size ≤ maxLen) (ht : TmO w T x.term t)
      (hb1 : x.bm = body.length) (hb2 : body.length ≤ x.bc) (hb3 : x.bc ≤ maxLen) (hb4 : xb.length = body.length) (rb : RowO w B 8 x.bA body.length (xb.flatMap V8.cells) GB) (hxb : ∀ i (h : i < body.length) (h' : i < xb.length), StO w (GB i) xb[i] body[i])
      (he1 : x.em = els.length) (he2 : els.length ≤ x.ec) (he3 : x.ec ≤ maxLen) (he4 : xe.length = els.length) (re : RowO w E 8 x.eA els.length (xe.flatMap V8.cells) GE) (hxe : ∀ i (h : i < els.length) (h' : i < xe.length), StO w (GE i) xe[i] els[i])
      (sT : ∀ b, T b → F b) (sB : ∀ b, B b → F b) (sE : ∀ b, E b → F b) (dTB : ∀ b, T b → B b → False) (dTE : ∀ b, T b → E b → False) (dBE : ∀ b, B b → E b → False) :
      StO w F x (.mk x.k x.s t body els)
def StP (w : World) (G : Nat → Prop) (cells : List Value) (g : St) : Prop := ∃ x : V8, cells = x.cells ∧ StO w G x g
abbrev StRowO (w : World) (F : Nat → Prop) (A : Option Addr) (l : List St) : Prop := RowOf StP w F 8 A l
theorem stRowO_of {w : World} {F : Nat → Prop} {A : Option Addr} {l : List St} {xs : List V8} {G : Nat → Nat → Prop} (hl : xs.length = l.length) (r : RowO w F 8 A l.length (xs.flatMap V8.cells) G) (hx : ∀ i (h : i < l.length) (h' : i < xs.length), StO w (G i) xs[i] l[i]) : StRowO w F A l :=
  ⟨_, G, r, fun i h => ⟨xs[i], flat_chunk V8.cells 8 v8_len xs i (by omega), hx i h (by omega)⟩⟩
theorem stRowO_to {w : World} {F : Nat → Prop} {A : Option Addr} {l : List St} (h : StRowO w F A l) : ∃ (xs : List V8) (G : Nat → Nat → Prop), xs.length = l.length ∧ RowO w F 8 A l.length (xs.flatMap V8.cells) G ∧ ∀ i (h : i < l.length) (h' : i < xs.length), StO w (G i) xs[i] l[i] := by
  obtain ⟨cs, G, r, hx⟩ := h
  obtain ⟨xs, hl, hxs⟩ := list_of l.length (fun i (x : V8) => (cs.drop (i * 8)).take 8 = x.cells ∧ ∀ h : i < l.length, StO w (G i) x l[i]) (fun i hi => by obtain ⟨x, e, hx'⟩ := hx i hi; exact ⟨x, e, fun _ => hx'⟩)
  have e : cs = xs.flatMap V8.cells := by
    apply List.ext_getElem?
    intro j
    by_cases hj : j < l.length * 8
    · have e1 : j = (j / 8) * 8 + j % 8 := by omega
      have hk : j / 8 < xs.length := by omega
      rw [e1, chunk_get (by omega) (hxs _ hk).1, flat_get V8.cells 8 v8_len _ _ _ hk (by omega)]
    · rw [List.getElem?_eq_none (by rw [r.1.1]; omega), List.getElem?_eq_none (by rw [flat_length V8.cells 8 v8_len]; omega)]
  exact ⟨xs, G, hl, by rw [← e]; exact r, fun i h h' => (hxs i h').2 h⟩
theorem StO.inv {F : Nat → Prop} {w : World} {x : V8} {g : St} (h : StO w F x g) :
    ∃ T B E t body els, g = .mk x.k x.s t body els ∧ i64in x.k ∧ x.s.size ≤ maxLen ∧ TmO w T x.term t ∧ x.bm = body.length ∧ body.length ≤ x.bc ∧ x.bc ≤ maxLen ∧ StRowO w B x.bA body ∧ x.em = els.length ∧ els.length ≤ x.ec ∧ x.ec ≤ maxLen ∧ StRowO w E x.eA els ∧
      (∀ b, T b → F b) ∧ (∀ b, B b → F b) ∧ (∀ b, E b → F b) ∧ (∀ b, T b → B b → False) ∧ (∀ b, T b → E b → False) ∧ (∀ b, B b → E b → False) := by
  cases h with
  | mk _ T B E _ t xb GB body xe GE els hk hs ht hb1 hb2 hb3 hb4 rb hxb he1 he2 he3 he4 re hxe sT sB sE dTB dTE dBE =>
    exact ⟨T, B, E, t, body, els, rfl, hk, hs, ht, hb1, hb2, hb3, stRowO_of hb4 rb hxb, he1, he2, he3, stRowO_of he4 re hxe, sT, sB, sE, dTB, dTE, dBE⟩
theorem StO.mk' {F T B E : Nat → Prop} {w : World} {x : V8} {t : Tm} {body els : List St} (hk : i64in x.k) (hs : x.s.size ≤ maxLen) (ht : TmO w T x.term t) (hb1 : x.bm = body.length) (hb2 : body.length ≤ x.bc) (hb3 : x.bc ≤ maxLen) (rb : StRowO w B x.bA body) (he1 : x.em = els.length) (he2 : els.length ≤ x.ec) (he3 : x.ec ≤ maxLen) (re : StRowO w E x.eA els)
    (sT : ∀ b, T b → F b) (sB : ∀ b, B b → F b) (sE : ∀ b, E b → F b) (dTB : ∀ b, T b → B b → False) (dTE : ∀ b, T b → E b → False) (dBE : ∀ b, B b → E b → False) : StO w F x (.mk x.k x.s t body els) := by
  obtain ⟨xb, GB, hb4, rb, hxb⟩ := stRowO_to rb
  obtain ⟨xe, GE, he4, re, hxe⟩ := stRowO_to re
  exact .mk F T B E x t xb GB body xe GE els hk hs ht hb1 hb2 hb3 hb4 rb hxb he1 he2 he3 he4 re hxe sT sB sE dTB dTE dBE
theorem StO.sub {F F' : Nat → Prop} {w : World} {x : V8} {g : St} (h : StO w F x g) (hF : ∀ b, F b → F' b) : StO w F' x g := by
  cases h with
  | mk _ T B E _ t xb GB body xe GE els hk hs ht hb1 hb2 hb3 hb4 rb hxb he1 he2 he3 he4 re hxe sT sB sE dTB dTE dBE =>
    exact .mk F' T B E x t xb GB body xe GE els hk hs ht hb1 hb2 hb3 hb4 rb hxb he1 he2 he3 he4 re hxe (fun b h => hF b (sT b h)) (fun b h => hF b (sB b h)) (fun b h => hF b (sE b h)) dTB dTE dBE
theorem StO.keep {F : Nat → Prop} {w w' : World} {x : V8} {g : St} (h : StO w F x g) (hk : ∀ b, F b → w'.heap[b]? = w.heap[b]?) : StO w' F x g := by
  induction h with
  | mk F T B E x t xb GB body xe GE els h1 h2 ht hb1 hb2 hb3 hb4 rb hxb he1 he2 he3 he4 re hxe sT sB sE dTB dTE dBE ihb ihe =>
    exact .mk F T B E x t xb GB body xe GE els h1 h2 (ht.keep fun b hb => hk b (sT b hb)) hb1 hb2 hb3 hb4 (rb.keep fun b hb => hk b (sB b hb)) (fun i hi hi' => ihb i hi hi' fun b hb => hk b (sB b (rb.2.2.1 i b hi hb))) he1 he2 he3 he4 (re.keep fun b hb => hk b (sE b hb)) (fun i hi hi' => ihe i hi hi' fun b hb => hk b (sE b (re.2.2.1 i b hi hb))) sT sB sE dTB dTE dBE
theorem StP.keepP : ∀ w w' G cells x, StP w G cells x → (∀ b, G b → w'.heap[b]? = w.heap[b]?) → StP w' G cells x := fun _ _ _ _ _ ⟨x, e, h⟩ hk => ⟨x, e, h.keep hk⟩
theorem StRowO.keep {F : Nat → Prop} {w w' : World} {A : Option Addr} {l : List St} (h : StRowO w F A l) (hk : ∀ b, F b → w'.heap[b]? = w.heap[b]?) : StRowO w' F A l := by
  obtain ⟨cs, G, row, hx⟩ := h
  exact ⟨cs, G, row.keep hk, fun i hi => StP.keepP _ _ _ _ _ (hx i hi) fun b hb => hk b (row.2.2.1 i b hi hb)⟩
theorem StRowO.sub {F F' : Nat → Prop} {w : World} {A : Option Addr} {l : List St} (h : StRowO w F A l) (hF : ∀ b, F b → F' b) : StRowO w F' A l := by
  obtain ⟨cs, G, r, hx⟩ := h
  exact ⟨cs, G, r.sub hF, hx⟩
theorem StO.is {F : Nat → Prop} {w : World} {x : V8} {g : St} (h : StO w F x g) : StIs (Pl w F) w x g := by
  induction h with
  | mk F T B E x t xb GB body xe GE els h1 h2 ht hb1 hb2 hb3 hb4 rb hxb he1 he2 he3 he4 re hxe sT sB sE dTB dTE dBE ihb ihe =>
    refine .mk x t xb body xe els h1 h2 (ht.is.keep (fun _ _ _ => rfl) (fun b _ ⟨q1, q2⟩ => ⟨sT b q1, q2⟩)) hb1 hb2 hb3 hb4 (by rw [hb4]; exact rb.1) (fun b off e hn => ?_) (fun i hi hi' => (ihb i hi hi').keep (fun _ _ _ => rfl) (fun b _ ⟨q1, q2⟩ => ⟨sB b (rb.2.2.1 i b hi q1), q2⟩)) he1 he2 he3 he4 (by rw [he4]; exact re.1) (fun b off e hn => ?_) (fun i hi hi' => (ihe i hi hi').keep (fun _ _ _ => rfl) (fun b _ ⟨q1, q2⟩ => ⟨sE b (re.2.2.1 i b hi q1), q2⟩))
    · rw [e] at rb
      have := (rb.lt hn).2
      exact ⟨sB b this.1, this.2⟩
    · rw [e] at re
      have := (re.lt hn).2
      exact ⟨sE b this.1, this.2⟩
theorem StRowO.is {F : Nat → Prop} {w : World} {A : Option Addr} {l : List St} (h : StRowO w F A l) : StRow (Pl w F) w A l := by
  obtain ⟨xs, G, hl, row, hx⟩ := stRowO_to h
  refine ⟨xs, hl, by rw [hl]; exact row.1, fun b off e hn => ?_, fun i hi hi' => (hx i hi hi').is.keep (fun _ _ _ => rfl) (fun b _ ⟨q1, q2⟩ => ⟨row.2.2.1 i b hi q1, q2⟩)⟩
  subst e
  exact (row.lt hn).2
theorem StRowO.any {F : Nat → Prop} {w : World} {A : Option Addr} {l : List St} (h : StRowO w F A l) : StRow AnyB w A l := h.is.any
theorem StO.any {F : Nat → Prop} {w : World} {x : V8} {g : St} (h : StO w F x g) : StIs AnyB w x g := h.is.any
theorem StRowO.fr {F : Nat → Prop} {lo : Nat} {w : World} {A : Option Addr} {l : List St} (h : StRowO w F A l) (hF : ∀ b, F b → lo ≤ b) : StRow (Fr lo w) w A l := h.is.keep (fun _ _ _ => rfl) (fun b _ ⟨q1, q2⟩ => ⟨hF b q1, q2⟩)
theorem StO.set {w : World} {F : Nat → Prop} {x : V8} {g : St} (h : StO w F x g) {p : Addr} (hp : ¬ F p.block) (u : Value) : StO (w.setCell p u) F x g := h.keep fun b hb => Below.heap_setCell w p u b (fun e => hp (by rw [← e]; exact hb))
theorem StRowO.set {w : World} {F : Nat → Prop} {A : Option Addr} {l : List St} (h : StRowO w F A l) {p : Addr} (hp : ¬ F p.block) (u : Value) : StRowO (w.setCell p u) F A l := h.keep fun b hb => Below.heap_setCell w p u b (fun e => hp (by rw [← e]; exact hb))
theorem StO.put8 {w : World} {F : Nat → Prop} {y : V8} {t : St} (h : StO w F y t) {g : Nat} (hg : ¬ F g) (o : Nat) (x : V8) : StO (put8 w g o x) F y t :=
  (((((((h.set (p := ⟨g, o, none⟩) hg _).set (p := ⟨g, o + 1, none⟩) hg _).set (p := ⟨g, o + 2, none⟩) hg _).set (p := ⟨g, o + 3, none⟩) hg _).set (p := ⟨g, o + 4, none⟩) hg _).set (p := ⟨g, o + 5, none⟩) hg _).set (p := ⟨g, o + 6, none⟩) hg _).set (p := ⟨g, o + 7, none⟩) hg _
end Go.Proofs.Ytadcebdhgocmhaa
