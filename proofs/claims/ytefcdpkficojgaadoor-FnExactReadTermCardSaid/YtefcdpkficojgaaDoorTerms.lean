/- Terms: what it is that cells read as a term, and the contracts of the laws' helpers that measure, copy and compare terms. -/
import Derived.Test.YtefcdpkficojgaaDoorOpen
import Derived.Test.YtefcdpkficojgaaDoorStrs
import Derived.Deep.RegionHeld3
import Derived.Lib.SmallJoins
namespace Go.Proofs.YtefcdpkficojgaaDoor
open Go.RowKit
set_option linter.unusedVariables false

inductive Tm where
  | mk (kind num : Int) (name : ByteArray) (kids : List Tm)
def Tm.kind : Tm → Int | .mk k _ _ _ => k
def Tm.num : Tm → Int | .mk _ n _ _ => n
def Tm.name : Tm → ByteArray | .mk _ _ s _ => s
def Tm.kids : Tm → List Tm | .mk _ _ _ l => l
mutual
/-- how many terms it is, itself too -/
def nodes : Tm → Nat | .mk _ _ _ kids => 1 + nodess kids
def nodess : List Tm → Nat | [] => 0 | t :: r => nodes t + nodess r
end
theorem nodess_le {l : List Tm} {x : Tm} (h : x ∈ l) : nodes x ≤ nodess l := by
  induction l with
  | nil => cases h
  | cons y r ih =>
    rw [nodess]
    rcases List.mem_cons.1 h with rfl | h
    · omega
    · have := ih h; omega
theorem kid_lt {k n : Int} {s : ByteArray} {kids : List Tm} {x : Tm} (h : x ∈ kids) : nodes x < nodes (Tm.mk k n s kids) := by
  have := nodess_le h
  rw [nodes]
  omega
mutual
/-- names' letters and kids, all the way down -/
def totT : Tm → Nat | .mk _ _ s kids => s.size + totTs kids
def totTs : List Tm → Nat | [] => 0 | t :: r => 1 + totT t + totTs r
end
theorem totTs_le {l : List Tm} {x : Tm} (h : x ∈ l) : totT x ≤ totTs l := by
  induction l with
  | nil => cases h
  | cons y r ih =>
    rw [totTs]
    rcases List.mem_cons.1 h with rfl | h
    · omega
    · have := ih h; omega
theorem totTs_len (l : List Tm) : l.length ≤ totTs l := by
  induction l with
  | nil => simp
  | cons y r ih => rw [totTs, List.length_cons]; omega
theorem totTs_append (l r : List Tm) : totTs (l ++ r) = totTs l + totTs r := by
  induction l with
  | nil => simp [totTs]
  | cons y t ih => rw [List.cons_append, totTs, totTs, ih]; omega
theorem totTs_take (l : List Tm) (k : Nat) (h : k < l.length) : totTs (l.take (k + 1)) = totTs (l.take k) + 1 + totT l[k] := by
  have e : l.take (k + 1) = l.take k ++ [l[k]] := List.take_succ_eq_append_getElem h
  rw [e, totTs_append, totTs, totTs]; omega
theorem totTs_take_le (l : List Tm) (k : Nat) : totTs (l.take k) ≤ totTs l := by
  have e : totTs l = totTs (l.take k) + totTs (l.drop k) := by rw [← totTs_append, List.take_append_drop]
  omega
theorem totTs_drop (l : List Tm) (k : Nat) (h : k ≤ l.length) : totTs (l.take k) + (l.length - k) ≤ totTs l := by
  have e : totTs l = totTs (l.take k) + totTs (l.drop k) := by rw [← totTs_append, List.take_append_drop]
  have := totTs_len (l.drop k)
  simp at this
  omega
def i64in (n : Int) : Prop := -9223372036854775808 ≤ n ∧ n ≤ 9223372036854775807
theorem i64in_of {n : Int} (h : (Lit.int .i64 n).wf = true) : i64in n := by
  simp [Lit.wf, IntKind.min, IntKind.max, IntKind.signed, IntKind.bits] at h
  exact ⟨by omega, by omega⟩

/-- the four cells of a term; F is asked of each block in which kids lie -/
inductive TmIs (F : Nat → Prop) (w : World) : List Value → Tm → Prop
  | mk (k n : Int) (s : ByteArray) (A : Option Addr) (c : Nat) (cs : List Value) (kids : List Tm) (hk : i64in k) (hn : i64in n) (hs : s.size ≤ maxLen) (hl : kids.length ≤ c) (hc : c ≤ maxLen) (rd : Rd w 4 A kids.length cs)
      (hF : ∀ b off, A = some ⟨b, off, none⟩ → 0 < kids.length → F b) (hx : ∀ i (h : i < kids.length), TmIs F w ((cs.drop (i * 4)).take 4) kids[i]) : TmIs F w [.int .i64 k, .int .i64 n, .string s, .slice A kids.length c] (.mk k n s kids)
/-- a row of terms -/
def TmRow (F : Nat → Prop) (w : World) (A : Option Addr) (ts : List Tm) : Prop :=
  ∃ cs, Rd w 4 A ts.length cs ∧ (∀ b off, A = some ⟨b, off, none⟩ → 0 < ts.length → F b) ∧ ∀ i (h : i < ts.length), TmIs F w ((cs.drop (i * 4)).take 4) ts[i]
theorem TmIs.inv {F : Nat → Prop} {w : World} {k n : Int} {s : ByteArray} {A : Option Addr} {m c : Nat} {t : Tm} (h : TmIs F w [.int .i64 k, .int .i64 n, .string s, .slice A m c] t) :
    ∃ kids, t = .mk k n s kids ∧ m = kids.length ∧ kids.length ≤ c ∧ c ≤ maxLen ∧ i64in k ∧ i64in n ∧ s.size ≤ maxLen ∧ TmRow F w A kids := by
  cases h with
  | mk _ _ _ _ _ cs kids hk hn hs hl hc rd hF hx => exact ⟨kids, rfl, rfl, hl, hc, hk, hn, hs, cs, rd, hF, hx⟩
theorem TmIs.mk' {F : Nat → Prop} {w : World} {k n : Int} {s : ByteArray} {A : Option Addr} {c : Nat} {kids : List Tm} (hk : i64in k) (hn : i64in n) (hs : s.size ≤ maxLen) (hl : kids.length ≤ c) (hc : c ≤ maxLen) (row : TmRow F w A kids) :
    TmIs F w [.int .i64 k, .int .i64 n, .string s, .slice A kids.length c] (.mk k n s kids) := by
  obtain ⟨cs, rd, hF, hx⟩ := row
  exact .mk k n s A c cs kids hk hn hs hl hc rd hF hx
theorem TmIs.form {F : Nat → Prop} {w : World} {cs : List Value} {t : Tm} (h : TmIs F w cs t) : ∃ k n s A m c, cs = [.int .i64 k, .int .i64 n, .string s, .slice A m c] := by
  cases h with
  | mk k n s A c cs kids hk hn hs hl hc rd hF hx => exact ⟨k, n, s, A, _, c, rfl⟩
theorem TmIs.keep {F F' : Nat → Prop} {w w' : World} {cs : List Value} {t : Tm} (h : TmIs F w cs t) (hk : ∀ p : Addr, p.block < w.heap.size → F p.block → w'.cell? p = w.cell? p) (hF : ∀ b, b < w.heap.size → F b → F' b) : TmIs F' w' cs t := by
  induction h with
  | mk k n s A c cs kids h1 h2 h3 hl hc rd hf hx ih =>
    refine .mk k n s A c cs kids h1 h2 h3 hl hc ⟨rd.1, fun hn => ?_⟩ (fun b off e hn => ?_) ih
    · obtain ⟨b, off, e, hcell⟩ := rd.2 hn
      exact ⟨b, off, e, fun j u hu => (hk _ (cell_lt (hcell j u hu)) (hf b off e hn)).trans (hcell j u hu)⟩
    · obtain ⟨b', off', e', hcell⟩ := rd.2 hn
      rw [e'] at e
      injection e with e
      injection e with e1 e2
      subst e1 e2
      refine hF _ ?_ (hf _ _ e' hn)
      have h0 : 0 < cs.length := by rw [rd.1]; omega
      exact cell_lt (hcell 0 _ (List.getElem?_eq_getElem h0))
theorem TmRow.keep {F F' : Nat → Prop} {w w' : World} {A : Option Addr} {ts : List Tm} (h : TmRow F w A ts) (hk : ∀ p : Addr, p.block < w.heap.size → F p.block → w'.cell? p = w.cell? p) (hF : ∀ b, b < w.heap.size → F b → F' b) : TmRow F' w' A ts := by
  obtain ⟨cs, rd, hf, hx⟩ := h
  refine ⟨cs, ⟨rd.1, fun hn => ?_⟩, fun b off e hn => ?_, fun i hi => (hx i hi).keep hk hF⟩
  · obtain ⟨b, off, e, hcell⟩ := rd.2 hn
    exact ⟨b, off, e, fun j u hu => (hk _ (cell_lt (hcell j u hu)) (hf b off e hn)).trans (hcell j u hu)⟩
  · obtain ⟨b', off', e', hcell⟩ := rd.2 hn
    rw [e'] at e
    injection e with e
    injection e with e1 e2
    subst e1 e2
    refine hF _ ?_ (hf _ _ e' hn)
    have h0 : 0 < cs.length := by rw [rd.1]; omega
    exact cell_lt (hcell 0 _ (List.getElem?_eq_getElem h0))
/-- any block at all -/
abbrev AnyB : Nat → Prop := fun _ => True
/-- blocks made since lo, of plain cells -/
def Fr (lo : Nat) (w : World) : Nat → Prop := fun b => lo ≤ b ∧ ∃ cur e, w.heap[b]? = some (.cells cur e (0, 0))
theorem TmIs.any {F : Nat → Prop} {w : World} {cs : List Value} {t : Tm} (h : TmIs F w cs t) : TmIs AnyB w cs t := h.keep (fun _ _ _ => rfl) (fun _ _ _ => trivial)
theorem TmRow.any {F : Nat → Prop} {w : World} {A : Option Addr} {ts : List Tm} (h : TmRow F w A ts) : TmRow AnyB w A ts := h.keep (fun _ _ _ => rfl) (fun _ _ _ => trivial)
theorem TmIs.belowA {w w' : World} {cs : List Value} {t : Tm} (h : TmIs AnyB w cs t) (hb : Below w.heap.size w w') : TmIs AnyB w' cs t := h.keep (fun _ hp _ => hb.cell hp) (fun _ _ _ => trivial)
theorem TmRow.belowA {w w' : World} {A : Option Addr} {ts : List Tm} (h : TmRow AnyB w A ts) (hb : Below w.heap.size w w') : TmRow AnyB w' A ts := h.keep (fun _ hp _ => hb.cell hp) (fun _ _ _ => trivial)
theorem TmIs.drew {w : World} {cs : List Value} {t : Tm} (h : TmIs AnyB w cs t) : TmIs AnyB w.drew cs t := h.belowA (Below.refl _ _).drew
theorem TmRow.drew {w : World} {A : Option Addr} {ts : List Tm} (h : TmRow AnyB w A ts) : TmRow AnyB w.drew A ts := h.belowA (Below.refl _ _).drew
theorem Fr.below {lo : Nat} {w w' : World} (hb : Below w.heap.size w w') : ∀ b, b < w.heap.size → Fr lo w b → Fr lo w' b := fun b hlt ⟨h1, cur, e, h2⟩ => ⟨h1, cur, e, (hb.block b hlt).trans h2⟩
theorem TmIs.belowF {lo : Nat} {w w' : World} {cs : List Value} {t : Tm} (h : TmIs (Fr lo w) w cs t) (hb : Below w.heap.size w w') : TmIs (Fr lo w') w' cs t := h.keep (fun _ hp _ => hb.cell hp) (Fr.below hb)
theorem TmRow.belowF {lo : Nat} {w w' : World} {A : Option Addr} {ts : List Tm} (h : TmRow (Fr lo w) w A ts) (hb : Below w.heap.size w w') : TmRow (Fr lo w') w' A ts := h.keep (fun _ hp _ => hb.cell hp) (Fr.below hb)
theorem TmIs.mono {lo lo' : Nat} {w : World} {cs : List Value} {t : Tm} (h : TmIs (Fr lo w) w cs t) (hl : lo' ≤ lo) : TmIs (Fr lo' w) w cs t := h.keep (fun _ _ _ => rfl) (fun b _ ⟨h1, h2⟩ => ⟨by omega, h2⟩)
theorem TmIs.setF {lo : Nat} {w : World} {cs : List Value} {t : Tm} (h : TmIs (Fr lo w) w cs t) {p : Addr} (hp : p.block < lo) (u : Value) : TmIs (Fr lo (w.setCell p u)) (w.setCell p u) cs t :=
  h.keep (fun q _ hq => World.cell?_setCell_other w p q u (fun e => by subst e; have := hq.1; omega)) (fun b _ ⟨h1, cur, e, h2⟩ => ⟨h1, cur, e, (Below.heap_setCell w p u b (by omega)).trans h2⟩)
/-- the cells of element k of a row -/
theorem rd_term {F : Nat → Prop} {w : World} {A : Option Addr} {ts : List Tm} (row : TmRow F w A ts) {k : Nat} (hk : k < ts.length) :
    ∃ b off kd n s A' m c, A = some ⟨b, off, none⟩ ∧ F b ∧ w.cell? ⟨b, off + k * 4, none⟩ = some (.int .i64 kd) ∧ w.cell? ⟨b, off + k * 4 + 1, none⟩ = some (.int .i64 n) ∧ w.cell? ⟨b, off + k * 4 + 2, none⟩ = some (.string s) ∧ w.cell? ⟨b, off + k * 4 + 3, none⟩ = some (.slice A' m c) ∧
      TmIs F w [.int .i64 kd, .int .i64 n, .string s, .slice A' m c] ts[k] := by
  obtain ⟨cs, rd, hF, hx⟩ := row
  obtain ⟨b, off, e, hc⟩ := rd.2 (by omega)
  have h := hx k hk
  obtain ⟨kd, n, s, A', m, c, e1⟩ := h.form
  rw [e1] at h
  exact ⟨b, off, kd, n, s, A', m, c, e, hF b off e (by omega), hc _ _ ((chunk_get (r := 0) (by omega) e1).trans rfl), hc _ _ ((chunk_get (r := 1) (by omega) e1).trans rfl), hc _ _ ((chunk_get (r := 2) (by omega) e1).trans rfl), hc _ _ ((chunk_get (r := 3) (by omega) e1).trans rfl), h⟩
/-- the same cells read as one term alone -/
theorem TmIs.det {F F' : Nat → Prop} {w : World} {cs : List Value} {t t' : Tm} (h : TmIs F w cs t) (h' : TmIs F' w cs t') : t = t' := by
  induction h generalizing t' with
  | mk k n s A c cs kids h1 h2 h3 hl hc rd hf hx ih =>
    obtain ⟨kids', rfl, hlen, _, _, _, _, _, cs', rd', _, hx'⟩ := h'.inv
    have e : kids = kids' := by
      apply List.ext_getElem hlen
      intro i hi hi'
      have hcs : cs = cs' := by
        apply List.ext_getElem
        · rw [rd.1, rd'.1, hlen]
        · intro j hj hj'
          obtain ⟨b, off, e1, hcell⟩ := rd.2 (by omega)
          obtain ⟨b', off', e2, hcell'⟩ := rd'.2 (by omega)
          rw [e1] at e2
          injection e2 with e2
          injection e2 with e3 e4
          subst e3 e4
          have q1 := hcell j _ (List.getElem?_eq_getElem hj)
          have q2 := hcell' j _ (List.getElem?_eq_getElem hj')
          rw [q1] at q2
          injection q2
      subst hcs
      exact ih i hi (hx' i hi')
    rw [e]
theorem TmRow.det {F F' : Nat → Prop} {w : World} {A : Option Addr} {ts ts' : List Tm} (h : TmRow F w A ts) (h' : TmRow F' w A ts') (hl : ts.length = ts'.length) : ts = ts' := by
  obtain ⟨cs, rd, _, hx⟩ := h
  obtain ⟨cs', rd', _, hx'⟩ := h'
  apply List.ext_getElem hl
  intro i hi hi'
  have hcs : cs = cs' := by
    apply List.ext_getElem
    · rw [rd.1, rd'.1, hl]
    · intro j hj hj'
      obtain ⟨b, off, e1, hcell⟩ := rd.2 (by omega)
      obtain ⟨b', off', e2, hcell'⟩ := rd'.2 (by omega)
      rw [e1] at e2
      injection e2 with e2
      injection e2 with e3 e4
      subst e3 e4
      have q1 := hcell j _ (List.getElem?_eq_getElem hj)
      have q2 := hcell' j _ (List.getElem?_eq_getElem hj')
      rw [q1] at q2
      injection q2
  subst hcs
  exact (hx i hi).det (hx' i hi')
/-- whether two terms are the same -/
noncomputable def sameB (a b : Tm) : Bool := @decide (a = b) (Classical.propDecidable _)
theorem sameB_yes {a b : Tm} (h : a = b) : sameB a b = true := by unfold sameB; exact @decide_eq_true _ (Classical.propDecidable _) h
theorem sameB_no {a b : Tm} (h : a ≠ b) : sameB a b = false := by unfold sameB; exact @decide_eq_false _ (Classical.propDecidable _) h
noncomputable def samesB (a b : List Tm) : Bool := @decide (a = b) (Classical.propDecidable _)
theorem samesB_yes {a b : List Tm} (h : a = b) : samesB a b = true := by unfold samesB; exact @decide_eq_true _ (Classical.propDecidable _) h
theorem samesB_no {a b : List Tm} (h : a ≠ b) : samesB a b = false := by unfold samesB; exact @decide_eq_false _ (Classical.propDecidable _) h
theorem sameB_true {a b : Tm} (h : sameB a b = true) : a = b := Classical.byContradiction fun hn => by rw [sameB_no hn] at h; cases h
theorem sameB_false {a b : Tm} (h : sameB a b = false) : a ≠ b := fun e => by rw [sameB_yes e] at h; cases h
/-- v is a term given by value -/
def IsTerm (F : Nat → Prop) (w : World) (v : Value) (t : Tm) : Prop := ∃ k n s A m c, v = .agg #[.int .i64 k, .int .i64 n, .string s, .slice A m c] ∧ TmIs F w [.int .i64 k, .int .i64 n, .string s, .slice A m c] t
set_option maxRecDepth 100000 in
theorem open_term_at {H : Type} {enc : TypeId × Value → H} {w : World} {base : Nat} {spare : Nat → Bool} {held : Bool} (fuel : Nat) : ∀ {cs : List Value} {y : DataW H × List MemPlace} (hf : DataW.trod enc Tryd.prog w base spare held fuel 98 cs = some y), ∃ t, TmIs AnyB w cs t := by
  induction fuel using Nat.strongRecOn with
  | ind fuel ih =>
    intro cs y hf
    have hl := struct_len Tryd.underlying98 hf
    obtain ⟨m0, y0, l0, h0⟩ := field_of Tryd.underlying98 hf 0 _ rfl
    obtain ⟨m1, y1, l1, h1⟩ := field_of Tryd.underlying98 hf 1 _ rfl
    obtain ⟨m2, y2, l2, h2⟩ := field_of Tryd.underlying98 hf 2 _ rfl
    obtain ⟨m3, y3, l3, h3⟩ := field_of Tryd.underlying98 hf 3 _ rfl
    replace h0 : DataW.trod enc Tryd.prog w base spare held m0 3 ((cs.drop 0).take (Tryd.prog.cellsOf 3)) = some y0 := h0
    replace h1 : DataW.trod enc Tryd.prog w base spare held m1 3 ((cs.drop 1).take (Tryd.prog.cellsOf 3)) = some y1 := h1
    replace h2 : DataW.trod enc Tryd.prog w base spare held m2 9 ((cs.drop 2).take (Tryd.prog.cellsOf 9)) = some y2 := h2
    replace h3 : DataW.trod enc Tryd.prog w base spare held m3 96 ((cs.drop 3).take (Tryd.prog.cellsOf 96)) = some y3 := h3
    rw [show Tryd.prog.cellsOf 98 = 4 from by kernel_rfl] at hl
    rw [show Tryd.prog.cellsOf 3 = 1 from by kernel_rfl] at h0 h1
    rw [show Tryd.prog.cellsOf 9 = 1 from by kernel_rfl] at h2
    rw [show Tryd.prog.cellsOf 96 = 1 from by kernel_rfl] at h3
    match cs, hl with
    | [c0, c1, c2, c3], _ =>
      simp only [List.drop_zero, List.drop_succ_cons, List.take_succ_cons, List.take_zero] at h0 h1 h2 h3
      obtain ⟨n0, e0, _, w0⟩ := DataW.trod_int Tryd.underlying3 h0
      obtain ⟨n1, e1, _, w1⟩ := DataW.trod_int Tryd.underlying3 h1
      obtain ⟨s2, e2, _, w2⟩ := DataW.trod_string Tryd.underlying9 h2
      obtain ⟨v3, ts, e3, A, c, cs', rfl, hl3, hc3, rd3, hx3⟩ := open_cells (R := TmIs AnyB w) (by decide) Tryd.underlying96 (by kernel_rfl : Tryd.prog.cellsOf 98 = 4) h3 (fun n cs' y' hn hy => ih n (by omega) hy)
      simp only [List.cons.injEq, and_true] at e0 e1 e2 e3
      subst e0 e1 e2 e3
      exact ⟨_, TmIs.mk' (i64in_of w0) (i64in_of w1) w2 hl3 hc3 ⟨cs', rd3, fun _ _ _ _ => trivial, hx3⟩⟩
set_option maxRecDepth 100000 in
theorem open_term {H : Type} {enc : TypeId × Value → H} {w : World} {r : Reach} {b0 base : Nat} {spare : Nat → Bool} {held : Bool} {v : Value} {d : DataW H} {p : List MemPlace} (hv : Value.okWide Tryd.prog w r b0 98 v) (h : DataW.Trod enc Tryd.prog w base spare held 98 v d p) : ∃ t, IsTerm AnyB w v t := by
  obtain ⟨cs, rfl, hsz⟩ := Go.WideShapes.okWide_struct Tryd.underlying98 hv
  obtain ⟨fuel, hf⟩ := h
  obtain ⟨t, ht⟩ := open_term_at fuel hf
  obtain ⟨k, n, s, A, m, c, e⟩ := ht.form
  rw [e] at ht
  refine ⟨t, k, n, s, A, m, c, ?_, ht⟩
  have : cs = #[.int .i64 k, .int .i64 n, .string s, .slice A m c] := by
    apply Array.ext'
    simpa [Value.cells] using e
  rw [this]
end Go.Proofs.YtefcdpkficojgaaDoor
