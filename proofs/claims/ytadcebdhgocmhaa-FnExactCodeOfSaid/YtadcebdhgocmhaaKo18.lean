/- Lemmas for the row. -/
import Derived.Test.YtadcebdhgocmhaaKo17
import Derived.Test.YtadcebdhgocmhaaKo10
namespace Go.Proofs.Ytadcebdhgocmhaa
open Go.RowKit
set_option linter.unusedVariables false
inductive StO (w : World) : (Nat → Prop) → V8 → St → Prop
  | mk (F T B E : Nat → Prop) (x : V8) (t : Tm) (xb : List V8) (GB : Nat → Nat → Prop) (body : List St) (xe : List V8) (GE : Nat → Nat → Prop) (els : List St) (hk : i64in x.k) (hs : x.s.size ≤ maxLen) (ht : TmO w T x.term t)
      (hb1 : x.bm = body.length) (hb2 : body.length ≤ x.bc) (hb3 : x.bc ≤ maxLen) (hb4 : xb.length = body.length) (rb : RowO w B 8 x.bA body.length (xb.flatMap V8.cells) GB) (hxb : ∀ i (h : i < body.length) (h' : i < xb.length), StO w (GB i) xb[i] body[i])
      (he1 : x.em = els.length) (he2 : els.length ≤ x.ec) (he3 : x.ec ≤ maxLen) (he4 : xe.length = els.length) (re : RowO w E 8 x.eA els.length (xe.flatMap V8.cells) GE) (hxe : ∀ i (h : i < els.length) (h' : i < xe.length), StO w (GE i) xe[i] els[i])
      (sT : ∀ b, T b → F b) (sB : ∀ b, B b → F b) (sE : ∀ b, E b → F b) (dTB : ∀ b, T b → B b → False) (dTE : ∀ b, T b → E b → False) (dBE : ∀ b, B b → E b → False) :
      StO w F x (.mk x.k x.s t body els)
def StP (w : World) (G : Nat → Prop) (cells : List Value) (g : St) : Prop := ∃ x : V8, cells = x.cells ∧ StO w G x g
abbrev StRowO (w : World) (F : Nat → Prop) (A : Option Addr) (l : List St) : Prop := RowOf StP w F 8 A l
theorem stRowO_of {w : World} {F : Nat → Prop} {A : Option Addr} {l : List St} {xs : List V8} {G : Nat → Nat → Prop} (hl : xs.length = l.length) (r : RowO w F 8 A l.length (xs.flatMap V8.cells) G) (hx : ∀ i (h : i < l.length) (h' : i < xs.length), StO w (G i) xs[i] l[i]) : StRowO w F A l :=
  ⟨_, G, r, fun i h => ⟨xs[i], flat_chunk V8.cells 8 v8_len xs i (by omega), hx i h (by omega)⟩⟩
theorem stRowO_to {w : World} {F : Nat → Prop} {A : Option Addr} {l : List St} (h : StRowO w F A l) : ∃ (xs : List V8) (G : Nat → Nat → Prop), xs.length = l.length ∧ RowO w F 8 A l.length (xs.flatMap V8.cells) G ∧ ∀ i (h : i < l.length) (h' : i < xs.length), StO w (G i) xs[i] l[i] := by
  obtain ⟨cs, G, r, hx⟩ := h
  obtain ⟨xs, hl, hxs⟩ := list_of l.length (fun i (x : V8) => (cs.drop (i * 8)).take 8 = x.cells ∧ ∀ h : i < l.length, StO w (G i) x l[i]) (fun i hi => by obtain ⟨x, e, hx'⟩ := hx i hi; exact ⟨x, e, fun _ => hx'⟩)
  have e : cs = xs.flatMap V8.cells := by
    apply List.ext_getElem?
    intro j
    by_cases hj : j < l.length * 8
    · have e1 : j = (j / 8) * 8 + j % 8 := by omega
      have hk : j / 8 < xs.length := by omega
      rw [e1, chunk_get (by omega) (hxs _ hk).1, flat_get V8.cells 8 v8_len _ _ _ hk (by omega)]
    · rw [List.getElem?_eq_none (by rw [r.1.1]; omega), List.getElem?_eq_none (by rw [flat_length V8.cells 8 v8_len]; omega)]
  exact ⟨xs, G, hl, by rw [← e]; exact r, fun i h h' => (hxs i h').2 h⟩
theorem StO.inv {F : Nat → Prop} {w : World} {x : V8} {g : St} (h : StO w F x g) :
    ∃ T B E t body els, g = .mk x.k x.s t body els ∧ i64in x.k ∧ x.s.size ≤ maxLen ∧ TmO w T x.term t ∧ x.bm = body.length ∧ body.length ≤ x.bc ∧ x.bc ≤ maxLen ∧ StRowO w B x.bA body ∧ x.em = els.length ∧ els.length ≤ x.ec ∧ x.ec ≤ maxLen ∧ StRowO w E x.eA els ∧
      (∀ b, T b → F b) ∧ (∀ b, B b → F b) ∧ (∀ b, E b → F b) ∧ (∀ b, T b → B b → False) ∧ (∀ b, T b → E b → False) ∧ (∀ b, B b → E b → False) := by
  cases h with
  | mk _ T B E _ t xb GB body xe GE els hk hs ht hb1 hb2 hb3 hb4 rb hxb he1 he2 he3 he4 re hxe sT sB sE dTB dTE dBE =>
    exact ⟨T, B, E, t, body, els, rfl, hk, hs, ht, hb1, hb2, hb3, stRowO_of hb4 rb hxb, he1, he2, he3, stRowO_of he4 re hxe, sT, sB, sE, dTB, dTE, dBE⟩
theorem StO.mk' {F T B E : Nat → Prop} {w : World} {x : V8} {t : Tm} {body els : List St} (hk : i64in x.k) (hs : x.s.size ≤ maxLen) (ht : TmO w T x.term t) (hb1 : x.bm = body.length) (hb2 : body.length ≤ x.bc) (hb3 : x.bc ≤ maxLen) (rb : StRowO w B x.bA body) (he1 : x.em = els.length) (he2 : els.length ≤ x.ec) (he3 : x.ec ≤ maxLen) (re : StRowO w E x.eA els)
    (sT : ∀ b, T b → F b) (sB : ∀ b, B b → F b) (sE : ∀ b, E b → F b) (dTB : ∀ b, T b → B b → False) (dTE : ∀ b, T b → E b → False) (dBE : ∀ b, B b → E b → False) : StO w F x (.mk x.k x.s t body els) := by
  obtain ⟨xb, GB, hb4, rb, hxb⟩ := stRowO_to rb
  obtain ⟨xe, GE, he4, re, hxe⟩ := stRowO_to re
  exact .mk F T B E x t xb GB body xe GE els hk hs ht hb1 hb2 hb3 hb4 rb hxb he1 he2 he3 he4 re hxe sT sB sE dTB dTE dBE
theorem StO.sub {F F' : Nat → Prop} {w : World} {x : V8} {g : St} (h : StO w F x g) (hF : ∀ b, F b → F' b) : StO w F' x g := by
  cases h with
  | mk _ T B E _ t xb GB body xe GE els hk hs ht hb1 hb2 hb3 hb4 rb hxb he1 he2 he3 he4 re hxe sT sB sE dTB dTE dBE =>
    exact .mk F' T B E x t xb GB body xe GE els hk hs ht hb1 hb2 hb3 hb4 rb hxb he1 he2 he3 he4 re hxe (fun b h => hF b (sT b h)) (fun b h => hF b (sB b h)) (fun b h => hF b (sE b h)) dTB dTE dBE
theorem StO.keep {F : Nat → Prop} {w w' : World} {x : V8} {g : St} (h : StO w F x g) (hk : ∀ b, F b → w'.heap[b]? = w.heap[b]?) : StO w' F x g := by
  induction h with
  | mk F T B E x t xb GB body xe GE els h1 h2 ht hb1 hb2 hb3 hb4 rb hxb he1 he2 he3 he4 re hxe sT sB sE dTB dTE dBE ihb ihe =>
    exact .mk F T B E x t xb GB body xe GE els h1 h2 (ht.keep fun b hb => hk b (sT b hb)) hb1 hb2 hb3 hb4 (rb.keep fun b hb => hk b (sB b hb)) (fun i hi hi' => ihb i hi hi' fun b hb => hk b (sB b (rb.2.2.1 i b hi hb))) he1 he2 he3 he4 (re.keep fun b hb => hk b (sE b hb)) (fun i hi hi' => ihe i hi hi' fun b hb => hk b (sE b (re.2.2.1 i b hi hb))) sT sB sE dTB dTE dBE
theorem StP.keepP : ∀ w w' G cells x, StP w G cells x → (∀ b, G b → w'.heap[b]? = w.heap[b]?) → StP w' G cells x := fun _ _ _ _ _ ⟨x, e, h⟩ hk => ⟨x, e, h.keep hk⟩
theorem StRowO.keep {F : Nat → Prop} {w w' : World} {A : Option Addr} {l : List St} (h : StRowO w F A l) (hk : ∀ b, F b → w'.heap[b]? = w.heap[b]?) : StRowO w' F A l := by
  obtain ⟨cs, G, row, hx⟩ := h
  exact ⟨cs, G, row.keep hk, fun i hi => StP.keepP _ _ _ _ _ (hx i hi) fun b hb => hk b (row.2.2.1 i b hi hb)⟩
theorem StRowO.sub {F F' : Nat → Prop} {w : World} {A : Option Addr} {l : List St} (h : StRowO w F A l) (hF : ∀ b, F b → F' b) : StRowO w F' A l := by
  obtain ⟨cs, G, r, hx⟩ := h
  exact ⟨cs, G, r.sub hF, hx⟩
theorem StO.is {F : Nat → Prop} {w : World} {x : V8} {g : St} (h : StO w F x g) : StIs (Pl w F) w x g := by
  induction h with
  | mk F T B E x t xb GB body xe GE els h1 h2 ht hb1 hb2 hb3 hb4 rb hxb he1 he2 he3 he4 re hxe sT sB sE dTB dTE dBE ihb ihe =>
    refine .mk x t xb body xe els h1 h2 (ht.is.keep (fun _ _ _ => rfl) (fun b _ ⟨q1, q2⟩ => ⟨sT b q1, q2⟩)) hb1 hb2 hb3 hb4 (by rw [hb4]; exact rb.1) (fun b off e hn => ?_) (fun i hi hi' => (ihb i hi hi').keep (fun _ _ _ => rfl) (fun b _ ⟨q1, q2⟩ => ⟨sB b (rb.2.2.1 i b hi q1), q2⟩)) he1 he2 he3 he4 (by rw [he4]; exact re.1) (fun b off e hn => ?_) (fun i hi hi' => (ihe i hi hi').keep (fun _ _ _ => rfl) (fun b _ ⟨q1, q2⟩ => ⟨sE b (re.2.2.1 i b hi q1), q2⟩))
    · rw [e] at rb
      have := (rb.lt hn).2
      exact ⟨sB b this.1, this.2⟩
    · rw [e] at re
      have := (re.lt hn).2
      exact ⟨sE b this.1, this.2⟩
theorem StRowO.is {F : Nat → Prop} {w : World} {A : Option Addr} {l : List St} (h : StRowO w F A l) : StRow (Pl w F) w A l := by
  obtain ⟨xs, G, hl, row, hx⟩ := stRowO_to h
  refine ⟨xs, hl, by rw [hl]; exact row.1, fun b off e hn => ?_, fun i hi hi' => (hx i hi hi').is.keep (fun _ _ _ => rfl) (fun b _ ⟨q1, q2⟩ => ⟨row.2.2.1 i b hi q1, q2⟩)⟩
  subst e
  exact (row.lt hn).2
theorem StRowO.any {F : Nat → Prop} {w : World} {A : Option Addr} {l : List St} (h : StRowO w F A l) : StRow AnyB w A l := h.is.any
theorem StO.any {F : Nat → Prop} {w : World} {x : V8} {g : St} (h : StO w F x g) : StIs AnyB w x g := h.is.any
theorem StRowO.fr {F : Nat → Prop} {lo : Nat} {w : World} {A : Option Addr} {l : List St} (h : StRowO w F A l) (hF : ∀ b, F b → lo ≤ b) : StRow (Fr lo w) w A l := h.is.keep (fun _ _ _ => rfl) (fun b _ ⟨q1, q2⟩ => ⟨hF b q1, q2⟩)
theorem StRowO.belowO {w1 w2 : World} {F : Nat → Prop} {A : Option Addr} {l : List St} (h : StRowO w1 F A l) (hF : ∀ b, F b → b < w1.heap.size) (hb : Below w1.heap.size w1 w2) : StRowO w2 F A l := h.keep fun b hF' => hb.block b (hF b hF')
theorem StO.set {w : World} {F : Nat → Prop} {x : V8} {g : St} (h : StO w F x g) {p : Addr} (hp : ¬ F p.block) (u : Value) : StO (w.setCell p u) F x g := h.keep fun b hb => Below.heap_setCell w p u b (fun e => hp (by rw [← e]; exact hb))
theorem StRowO.set {w : World} {F : Nat → Prop} {A : Option Addr} {l : List St} (h : StRowO w F A l) {p : Addr} (hp : ¬ F p.block) (u : Value) : StRowO (w.setCell p u) F A l := h.keep fun b hb => Below.heap_setCell w p u b (fun e => hp (by rw [← e]; exact hb))
theorem StO.put8 {w : World} {F : Nat → Prop} {y : V8} {t : St} (h : StO w F y t) {g : Nat} (hg : ¬ F g) (o : Nat) (x : V8) : StO (put8 w g o x) F y t :=
  (((((((h.set (p := ⟨g, o, none⟩) hg _).set (p := ⟨g, o + 1, none⟩) hg _).set (p := ⟨g, o + 2, none⟩) hg _).set (p := ⟨g, o + 3, none⟩) hg _).set (p := ⟨g, o + 4, none⟩) hg _).set (p := ⟨g, o + 5, none⟩) hg _).set (p := ⟨g, o + 6, none⟩) hg _).set (p := ⟨g, o + 7, none⟩) hg _
def RetGO (w : World) (g : St) (e : Ending) (w' : World) : Prop := ∃ x : V8, e = .returned (.agg #[.int .i64 x.k, .string x.s, .int .i64 x.tk, .int .i64 x.tn, .string x.ts, .slice x.tA x.tm x.tc, .slice x.bA x.bm x.bc, .slice x.eA x.em x.ec]) ∧ StO w' (Made w w') x g ∧ Below w.heap.size w w'
def RetGsO (w : World) (l : List St) (e : Ending) (w' : World) : Prop := ∃ A c, e = .returned (.slice A l.length c) ∧ l.length ≤ c ∧ c ≤ maxLen ∧ StRowO w' (Made w w') A l ∧ Below w.heap.size w w'
abbrev TgO (g : St) : Prop := ∀ (x : V8) (w : World), StIs AnyB w x g → totG g ≤ 1048576 → Calls Try.prog 116 #[.agg #[.int .i64 x.k, .string x.s, .int .i64 x.tk, .int .i64 x.tn, .string x.ts, .slice x.tA x.tm x.tc, .slice x.bA x.bm x.bc, .slice x.eA x.em x.ec]] w (RetGO w g)
set_option maxHeartbeats 800000 in
theorem laws_toStmtSO (ts : List St) (ih : ∀ t ∈ ts, TgO t) (A : Option Addr) (c : Nat) (w : World) (row : StRow AnyB w A ts) (hl : ts.length ≤ c) (hc : c ≤ maxLen) (ht : totGs ts ≤ 1048576) :
    Calls Try.prog 105 #[.slice A ts.length c] w (RetGsO w ts) := by
  unfold maxLen at hc
  have IH := Lib.hid ih
  have RW := Lib.hid row
  have hlen := totGs_len ts
  have HT := Lib.hid (fun t (hm : t ∈ ts) => show totG t ≤ 1048576 from by have := totGs_le hm; omega)
  clear ih row
  go_enter Try.func105, Try.ntmps105
  go_wp2_with (at_make; refine wpList_mkN rfl _ _ 29 rfl sgT V8.cells v8_len z8 _ sgZ rfl (Below.refl _ _) _ _ _ _ ts.length rfl rfl rfl rfl (by omega) (by simp only [maxLen]; omega) ?_; intro w1 own1 hlt1 hg1)
  go_loopw [4] (fun i wr => ∃ us : List V8, us.length ≤ ts.length ∧ i = .int .i64 (us.length : Int) ∧ Own w wr 36 8 (.slice (some ⟨w.heap.size, 0, none⟩) ts.length ts.length) ts.length ((us ++ List.replicate (ts.length - us.length) z8).flatMap V8.cells) ∧ w.heap.size < wr.heap.size ∧ Hid (∃ G : Nat → Nat → Prop, (∀ k b, k < us.length → G k b → w.heap.size < b ∧ b < wr.heap.size) ∧ (∀ i j b, i < us.length → j < us.length → i ≠ j → G i b → G j b → False) ∧ ∀ k (hk : k < ts.length) (hk' : k < us.length), StO wr (G k) us[k] ts[k])) (fun i _ => ts.length - (intOf i).toNat)
  case atStart => exact ⟨[], Nat.zero_le _, rfl, by simpa using own1, hlt1, Lib.hid ⟨fun _ _ => False, fun k b hk => absurd hk (by simp), fun i j b hk => absurd hk (by simp), fun k _ hk => absurd hk (by simp)⟩⟩
  case round =>
    obtain ⟨us, hk, rfl, own, hsz, HU⟩ := hrel
    have OW := Lib.hid own
    clear own own1 hlt1 hg1 hlen
    by_cases hlt : us.length < ts.length
    · obtain ⟨b, off, y, rfl, _, ⟨d0, d1, d2, d3, d4, d5, d6, d7⟩, hterm⟩ := rd_stmt (RW.out.belowA OW.out.2) hlt
      have HTm := Lib.hid hterm
      clear hterm
      have h0k : (0 : Int) ≤ (us.length : Int) := by omega
      go_wp2_with fail
      refine (IH.out _ (List.getElem_mem hlt) y _ HTm.out (HT.out _ (List.getElem_mem hlt))).mono ?_
      rintro e w1 ⟨x, rfl, ht1, b1⟩
      have T1 := Lib.hid ht1
      have B1 := Lib.hid b1
      clear ht1 b1 d0 d1 d2 d3 d4 d5 d6 d7
      have O2 := Lib.hid (OW.out.below B1.out)
      have hp : us.length < (us ++ List.replicate (ts.length - us.length) z8).length := fill_get hlt
      obtain ⟨x0, q0⟩ : ∃ x, w1.cell? ⟨w.heap.size, us.length * 8, none⟩ = some x := ⟨_, O2.out.cellAt (j := us.length * 8) (by omega) ((flat_get V8.cells 8 v8_len _ us.length 0 hp (by omega)).trans rfl)⟩
      obtain ⟨x1, q1⟩ : ∃ x, w1.cell? ⟨w.heap.size, us.length * 8 + 1, none⟩ = some x := ⟨_, O2.out.cellAt (j := us.length * 8 + 1) (by omega) ((flat_get V8.cells 8 v8_len _ us.length 1 hp (by omega)).trans rfl)⟩
      obtain ⟨x2, q2⟩ : ∃ x, w1.cell? ⟨w.heap.size, us.length * 8 + 2, none⟩ = some x := ⟨_, O2.out.cellAt (j := us.length * 8 + 2) (by omega) ((flat_get V8.cells 8 v8_len _ us.length 2 hp (by omega)).trans rfl)⟩
      obtain ⟨x3, q3⟩ : ∃ x, w1.cell? ⟨w.heap.size, us.length * 8 + 3, none⟩ = some x := ⟨_, O2.out.cellAt (j := us.length * 8 + 3) (by omega) ((flat_get V8.cells 8 v8_len _ us.length 3 hp (by omega)).trans rfl)⟩
      obtain ⟨x4, q4⟩ : ∃ x, w1.cell? ⟨w.heap.size, us.length * 8 + 4, none⟩ = some x := ⟨_, O2.out.cellAt (j := us.length * 8 + 4) (by omega) ((flat_get V8.cells 8 v8_len _ us.length 4 hp (by omega)).trans rfl)⟩
      obtain ⟨x5, q5⟩ : ∃ x, w1.cell? ⟨w.heap.size, us.length * 8 + 5, none⟩ = some x := ⟨_, O2.out.cellAt (j := us.length * 8 + 5) (by omega) ((flat_get V8.cells 8 v8_len _ us.length 5 hp (by omega)).trans rfl)⟩
      obtain ⟨x6, q6⟩ : ∃ x, w1.cell? ⟨w.heap.size, us.length * 8 + 6, none⟩ = some x := ⟨_, O2.out.cellAt (j := us.length * 8 + 6) (by omega) ((flat_get V8.cells 8 v8_len _ us.length 6 hp (by omega)).trans rfl)⟩
      obtain ⟨x7, q7⟩ : ∃ x, w1.cell? ⟨w.heap.size, us.length * 8 + 7, none⟩ = some x := ⟨_, O2.out.cellAt (j := us.length * 8 + 7) (by omega) ((flat_get V8.cells 8 v8_len _ us.length 7 hp (by omega)).trans rfl)⟩
      have r0 := O2.out.freeAt (us.length * 8)
      have r1 := O2.out.freeAt (us.length * 8 + 1)
      have r2 := O2.out.freeAt (us.length * 8 + 2)
      have r3 := O2.out.freeAt (us.length * 8 + 3)
      have r4 := O2.out.freeAt (us.length * 8 + 4)
      have r5 := O2.out.freeAt (us.length * 8 + 5)
      have r6 := O2.out.freeAt (us.length * 8 + 6)
      have r7 := O2.out.freeAt (us.length * 8 + 7)
      have e2 := flat_sets V8.cells 8 v8_len (us ++ List.replicate (ts.length - us.length) z8) us.length hp x
      rw [fill_set hlt] at e2
      have OS := O2.out.put8 (us.length * 8) x
      rw [e2] at OS
      have O3 := Lib.hid OS
      have HZ := Lib.hid (put8_size w1 w.heap.size (us.length * 8) x)
      have hs1 := B1.out.size
      have hu : Hid (∃ G : Nat → Nat → Prop, (∀ k b, k < (us ++ [x]).length → G k b → w.heap.size < b ∧ b < (put8 w1 w.heap.size (us.length * 8) x).heap.size) ∧ (∀ i j b, i < (us ++ [x]).length → j < (us ++ [x]).length → i ≠ j → G i b → G j b → False) ∧ ∀ k (hk : k < ts.length) (hk' : k < (us ++ [x]).length), StO (put8 w1 w.heap.size (us.length * 8) x) (G k) (us ++ [x])[k] ts[k]) := by
        obtain ⟨G, hG1, hG2, hG3⟩ := HU.out
        have hz := HZ.out
        refine Lib.hid ⟨fun k b => if k < us.length then G k b else (wr.heap.size ≤ b ∧ b < w1.heap.size), fun k b hk hb => ?_, fun i j b hi hj hne h1 h2 => ?_, fun k hk hk' => ?_⟩
        · by_cases e : k < us.length
          · simp only [e, if_true] at hb; have := hG1 k b e hb; omega
          · simp only [e, if_false] at hb; omega
        · simp only [List.length_append, List.length_cons, List.length_nil] at hi hj
          by_cases e : i < us.length
          · by_cases e' : j < us.length
            · simp only [e, e', if_true] at h1 h2; exact hG2 i j b e e' hne h1 h2
            · simp only [e, e', if_true, if_false] at h1 h2; have := hG1 i b e h1; omega
          · by_cases e' : j < us.length
            · simp only [e, e', if_true, if_false] at h1 h2; have := hG1 j b e' h2; omega
            · omega
        · by_cases e : k < us.length
          · rw [List.getElem_append_left e]
            simp only [e, if_true]
            exact ((hG3 k hk e).keep fun b hb => B1.out.block b (hG1 k b e hb).2).put8 (fun hb => by have := hG1 k _ e hb; omega) _ _
          · have e2 : k = us.length := by simp at hk'; omega
            subst e2
            simp only [List.getElem_concat_length, Nat.lt_irrefl, if_false]
            exact T1.out.put8 (fun hb => by have := hb.1; omega) _ _
      clear OS e2
      go_wp2_with fail
      go_roundw
      case rel => exact ⟨us ++ [x], by simp; omega, by simp, O3.out, by have := HZ.out; simp; omega, hu⟩
      case measure => simp [intOf]; omega
    · have e : us.length = ts.length := by omega
      have OE := OW.out
      rw [e, Nat.sub_self, List.replicate_zero, List.append_nil] at OE
      have HE := Lib.hid e
      have OB := Lib.hid OE
      clear OE OW e
      go_wp2_with fail
      go_ret
      obtain ⟨G, hG1, hG2, hG3⟩ := HU.out
      have he := HE.out
      refine ⟨_, _, rfl, Nat.le_refl _, by simp only [maxLen]; omega, stRowO_of (xs := us) (G := G) he ⟨by rw [← he]; rw [he]; exact OB.out.rd, fun hn => ?_, fun i b hi hb => ?_, fun i j b hi hj => hG2 i j b (by omega) (by omega)⟩ (fun k hk hk' => hG3 k hk hk'), OB.out.2⟩
      · rcases OB.out.1.2 with ⟨h, _⟩ | ⟨g, cap, cur, h, hb, hg, _⟩
        · simp at h
        · injection h with h
          injection h with h
          injection h with h
          subst h
          exact ⟨_, 0, cur, _, rfl, ⟨Nat.le_refl _, hsz⟩, hg, fun i hi hb => by have := hG1 i _ (by omega) hb; omega⟩
      · have := hG1 i b (by omega) hb
        exact ⟨by omega, by omega⟩
set_option maxHeartbeats 800000 in
theorem laws_toStmtO (g : St) : TgO g := by
  induction hN : snodes g using Nat.strongRecOn generalizing g with
  | ind N ih =>
    intro x w hg htot
    obtain ⟨t, body, els, rfl, hk, hs, ht, hb1, hb2, hb3, rb, he1, he2, he3, re⟩ := hg.inv
    have IB : Hid (∀ y ∈ body, TgO y) := Lib.hid fun y hy => ih (snodes y) (by rw [← hN]; exact body_lt hy) y rfl
    have IE : Hid (∀ y ∈ els, TgO y) := Lib.hid fun y hy => ih (snodes y) (by rw [← hN]; exact else_lt hy) y rfl
    have htt : totT t ≤ 1048576 := by rw [totG] at htot; omega
    have htb : totGs body ≤ 1048576 := by rw [totG] at htot; omega
    have hte : totGs els ≤ 1048576 := by rw [totG] at htot; omega
    have HT := Lib.hid ht
    have RB := Lib.hid rb
    have RE := Lib.hid re
    have KK := Lib.hid hk
    have SS := Lib.hid hs
    obtain ⟨k, s, tk, tn, ts, tA, tm, tc, bA, bm, bc, eA, em, ec⟩ := x
    simp only at hb1 hb2 hb3 he1 he2 he3 RB RE KK SS
    simp only
    subst hb1 he1
    clear ih hN hg ht rb re hk hs htot
    go_enter Try.func116, Try.ntmps116
    go_wp2_with fail
    refine (laws_toTermO t tk tn ts tA tm tc _ (HT.out.belowA (by repeat' first|exact .refl _ _|exact Nat.le_refl _|refine .alloc ?_ ?_ _|refine .setCell ?_ ?_ _|refine .drew ?_|refine below_drewN ?_ _|assumption|(simp;done)|(simp;omega))) htt).mono ?_
    rintro e w1 ⟨k1, n1, s1, A1, m1, c1, rfl, t1, b1⟩
    have OA : Own w w1 137 8 (.slice (some ⟨w.heap.size, 0, none⟩) 1 1) 1 [.int .i64 k, .string s, .int .i64 tk, .int .i64 tn, .string ts, .slice tA tm tc, .slice bA body.length bc, .slice eA els.length ec] := (((Own.lit8 (Below.refl _ _) rfl rfl).alloc _).alloc _).below b1
    have OR : Own w w1 36 8 (.slice (some ⟨w.heap.size + 1, 0, none⟩) 1 1) 1 [.int .i64 0, .string ByteArray.empty, .int .i64 0, .int .i64 0, .string ByteArray.empty, .slice none 0 0, .slice none 0 0, .slice none 0 0] := ((Own.lit8 (Below.alloc (Below.refl _ _) (Nat.le_refl _) _) rfl (by simp)).alloc _).below b1
    have OO : Own w w1 36 8 (.slice (some ⟨w.heap.size + 1 + 1, 0, none⟩) 1 1) 1 [.int .i64 k, .string s, .int .i64 0, .int .i64 0, .string ByteArray.empty, .slice none 0 0, .slice none 0 0, .slice none 0 0] := (Own.lit8 (Below.alloc (Below.alloc (Below.refl _ _) (Nat.le_refl _) _) (by simp) _) rfl (by simp)).below b1
    have T1 : TmO w1 (fun b => w.heap.size + 3 ≤ b ∧ b < w1.heap.size) [.int .i64 k1, .int .i64 n1, .string s1, .slice A1 m1 c1] t := t1.sub fun b hb => ⟨by have := hb.1; simpa using this, hb.2⟩
    have a6 := OA.cellAt (j := 6) (by omega) rfl
    have o2 := OO.cellAt (j := 2) (by omega) rfl
    have f2 := OO.freeAt 2
    have o3 := OO.cellAt (j := 3) (by omega) rfl
    have f3 := OO.freeAt 3
    have o4 := OO.cellAt (j := 4) (by omega) rfl
    have f4 := OO.freeAt 4
    have o5 := OO.cellAt (j := 5) (by omega) rfl
    have f5 := OO.freeAt 5
    have OA1 := Lib.hid (Own.set_other (Own.set_other (Own.set_other (Own.set_other OA OO (by omega) (by omega) 2 (.int .i64 k1)) (OO.set 2 (.int .i64 k1)) (by omega) (by omega) 3 (.int .i64 n1)) ((OO.set 2 (.int .i64 k1)).set 3 (.int .i64 n1)) (by omega) (by omega) 4 (.string s1)) (((OO.set 2 (.int .i64 k1)).set 3 (.int .i64 n1)).set 4 (.string s1)) (by omega) (by omega) 5 (.slice A1 m1 c1))
    have OR1 := Lib.hid (Own.set_other (Own.set_other (Own.set_other (Own.set_other OR OO (by omega) (by omega) 2 (.int .i64 k1)) (OO.set 2 (.int .i64 k1)) (by omega) (by omega) 3 (.int .i64 n1)) ((OO.set 2 (.int .i64 k1)).set 3 (.int .i64 n1)) (by omega) (by omega) 4 (.string s1)) (((OO.set 2 (.int .i64 k1)).set 3 (.int .i64 n1)).set 4 (.string s1)) (by omega) (by omega) 5 (.slice A1 m1 c1))
    have OO1 : Hid (Own w ((((w1.setCell ⟨w.heap.size + 1 + 1, 2, none⟩ (.int .i64 k1)).setCell ⟨w.heap.size + 1 + 1, 3, none⟩ (.int .i64 n1)).setCell ⟨w.heap.size + 1 + 1, 4, none⟩ (.string s1)).setCell ⟨w.heap.size + 1 + 1, 5, none⟩ (.slice A1 m1 c1)) 36 8 (.slice (some ⟨w.heap.size + 1 + 1, 0, none⟩) 1 1) 1 [.int .i64 k, .string s, .int .i64 k1, .int .i64 n1, .string s1, .slice A1 m1 c1, .slice none 0 0, .slice none 0 0]) := Lib.hid ((((OO.set 2 (.int .i64 k1)).set 3 (.int .i64 n1)).set 4 (.string s1)).set 5 (.slice A1 m1 c1))
    have TT1 := Lib.hid (((((T1.set (p := ⟨w.heap.size + 1 + 1, 2, none⟩) (by simp; try omega) (.int .i64 k1)).set (p := ⟨w.heap.size + 1 + 1, 3, none⟩) (by simp; try omega) (.int .i64 n1)).set (p := ⟨w.heap.size + 1 + 1, 4, none⟩) (by simp; try omega) (.string s1)).set (p := ⟨w.heap.size + 1 + 1, 5, none⟩) (by simp; try omega) (.slice A1 m1 c1)))
    clear t1 b1 T1 OA OR OO HT
    go_wp2_with fail
    refine (laws_toStmtSO body IB.out bA bc _ (RB.out.belowA OO1.out.2) hb2 hb3 htb).mono ?_
    rintro e w2 ⟨A2, c2, rfl, hl2, hc2, row2, b2⟩
    have OA := OA1.out.below b2
    have OR := OR1.out.below b2
    have OO := OO1.out.below b2
    have hq : w.heap.size + 1 + 1 < w2.heap.size := cell_lt (OO.cellAt (j := 0) (by omega) rfl)
    have hq1 : w.heap.size + 1 + 1 < w1.heap.size := by have := cell_lt (OO1.out.cellAt (j := 0) (by omega) rfl); simpa using this
    have hz2 : w1.heap.size ≤ w2.heap.size := by have := b2.size; simpa using this
    have T2 := Lib.hid ((TT1.out.belowO (fun b hb => by simp; omega) b2).set (p := ⟨w.heap.size + 1 + 1, 6, none⟩) (by simp; try omega) (.slice A2 body.length c2))
    have row2' : StRowO w2 (fun b => w1.heap.size ≤ b ∧ b < w2.heap.size) A2 body := row2.sub fun b hb => ⟨by have := hb.1; simpa using this, hb.2⟩
    have R2 := Lib.hid (row2'.set (p := ⟨w.heap.size + 1 + 1, 6, none⟩) (by simp; omega) (.slice A2 body.length c2))
    have a7 := OA.cellAt (j := 7) (by omega) rfl
    have o6 := OO.cellAt (j := 6) (by omega) rfl
    have f6 := OO.freeAt 6
    have OR2 := Lib.hid (Own.set_other OR OO (by omega) (by omega) 6 (.slice A2 body.length c2))
    have OO2 : Hid (Own w (w2.setCell ⟨w.heap.size + 1 + 1, 6, none⟩ (.slice A2 body.length c2)) 36 8 (.slice (some ⟨w.heap.size + 1 + 1, 0, none⟩) 1 1) 1 [.int .i64 k, .string s, .int .i64 k1, .int .i64 n1, .string s1, .slice A1 m1 c1, .slice A2 body.length c2, .slice none 0 0]) := Lib.hid (OO.set 6 (.slice A2 body.length c2))
    clear row2 row2' b2 OA OR OO OA1 OR1 OO1 TT1 RB a6 o2 f2 o3 f3 o4 f4 o5 f5
    go_wp2_with fail
    refine (laws_toStmtSO els IE.out eA ec _ (RE.out.belowA OO2.out.2) he2 he3 hte).mono ?_
    rintro e w3 ⟨A3, c3, rfl, hl3, hc3, row3, b3⟩
    have OR := OR2.out.below b3
    have OO := OO2.out.below b3
    have hz3 : w2.heap.size ≤ w3.heap.size := by have := b3.size; simpa using this
    have T3 := Lib.hid (T2.out.belowO (fun b hb => by simp; omega) b3)
    have R3 := Lib.hid (R2.out.belowO (fun b hb => by simp; omega) b3)
    have E3 : Hid (StRowO w3 (fun b => w2.heap.size ≤ b ∧ b < w3.heap.size) A3 els) := Lib.hid (row3.sub fun b hb => ⟨by have := hb.1; simpa using this, hb.2⟩)
    have hB3 := Lib.hid OO.2
    have o0 := OO.cellAt (j := 0) (by omega) rfl
    have r0 := OR.cellAt (j := 0) (by omega) rfl
    have h0 := OR.freeAt 0
    have o1 := OO.cellAt (j := 1) (by omega) rfl
    have r1 := OR.cellAt (j := 1) (by omega) rfl
    have h1 := OR.freeAt 1
    have o2 := OO.cellAt (j := 2) (by omega) rfl
    have r2 := OR.cellAt (j := 2) (by omega) rfl
    have h2 := OR.freeAt 2
    have o3 := OO.cellAt (j := 3) (by omega) rfl
    have r3 := OR.cellAt (j := 3) (by omega) rfl
    have h3 := OR.freeAt 3
    have o4 := OO.cellAt (j := 4) (by omega) rfl
    have r4 := OR.cellAt (j := 4) (by omega) rfl
    have h4 := OR.freeAt 4
    have o5 := OO.cellAt (j := 5) (by omega) rfl
    have r5 := OR.cellAt (j := 5) (by omega) rfl
    have h5 := OR.freeAt 5
    have o6 := OO.cellAt (j := 6) (by omega) rfl
    have r6 := OR.cellAt (j := 6) (by omega) rfl
    have h6 := OR.freeAt 6
    have o7 := OO.cellAt (j := 7) (by omega) rfl
    have r7 := OR.cellAt (j := 7) (by omega) rfl
    have h7 := OR.freeAt 7
    have f7 := OO.freeAt 7
    clear row3 b3 OR OO OR2 OO2 T2 R2 RE a7
    go_wp2_with fail
    refine bodyPost_ret (v := .agg #[.int .i64 k, .string s, .int .i64 k1, .int .i64 n1, .string s1, .slice A1 m1 c1, .slice A2 body.length c2, .slice A3 els.length c3]) (by simp [results, Try.results116, go_sem, r0, r1, r2, r3, r4, r5, r6, r7]) rfl ⟨⟨k, s, k1, n1, s1, A1, m1, c1, A2, body.length, c2, A3, els.length, c3⟩, rfl, StO.mk' (T := fun b => w.heap.size + 3 ≤ b ∧ b < w1.heap.size) (B := fun b => w1.heap.size ≤ b ∧ b < w2.heap.size) (E := fun b => w2.heap.size ≤ b ∧ b < w3.heap.size) (x := ⟨k, s, k1, n1, s1, A1, m1, c1, A2, body.length, c2, A3, els.length, c3⟩) KK.out SS.out ?_ rfl hl2 hc2 ?_ rfl hl3 hc3 ?_ (fun b hb => ⟨by omega, by simp; omega⟩) (fun b hb => ⟨by omega, by simp; omega⟩) (fun b hb => ⟨by omega, by simp; omega⟩) (fun b h1 h2 => by omega) (fun b h1 h2 => by omega) (fun b h1 h2 => by omega), ?_⟩
    · exact (((((((((T3.out.set (by simp; try omega) _).set (by simp; try omega) _).set (by simp; try omega) _).set (by simp; try omega) _).set (by simp; try omega) _).set (by simp; try omega) _).set (by simp; try omega) _).set (by simp; try omega) _).set (by simp; try omega) _)
    · exact (((((((((R3.out.set (by simp; try omega) _).set (by simp; try omega) _).set (by simp; try omega) _).set (by simp; try omega) _).set (by simp; try omega) _).set (by simp; try omega) _).set (by simp; try omega) _).set (by simp; try omega) _).set (by simp; try omega) _)
    · exact (((((((((E3.out.set (by simp; try omega) _).set (by simp; try omega) _).set (by simp; try omega) _).set (by simp; try omega) _).set (by simp; try omega) _).set (by simp; try omega) _).set (by simp; try omega) _).set (by simp; try omega) _).set (by simp; try omega) _)
    · have hb := hB3.out
      exact (((((((((hb.setCell (by simp; omega) _).setCell (by simp) _).setCell (by simp) _).setCell (by simp) _).setCell (by simp) _).setCell (by simp) _).setCell (by simp) _).setCell (by simp) _).setCell (by simp) _)
end Go.Proofs.Ytadcebdhgocmhaa
