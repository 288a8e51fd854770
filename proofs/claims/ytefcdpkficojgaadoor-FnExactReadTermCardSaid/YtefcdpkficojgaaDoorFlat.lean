/- Rows whose elements take several cells: reading one element's cells, and storing one element whole. -/
import Derived.Test.YtefcdpkficojgaaDoorMem
namespace Go.Proofs.YtefcdpkficojgaaDoor
open Go.RowKit

/-- cell j of element k -/
theorem flat_get {α : Type} (f : α → List Value) (sz : Nat) (hf : ∀ x, (f x).length = sz) (xs : List α) (k j : Nat) (hk : k < xs.length) (hj : j < sz) : (xs.flatMap f)[k * sz + j]? = (f xs[k])[j]? := by
  induction xs generalizing k with
  | nil => simp at hk
  | cons x r ih =>
    rw [List.flatMap_cons]
    cases k with
    | zero => rw [Nat.zero_mul, Nat.zero_add, List.getElem?_append_left (by rw [hf]; exact hj)]; rfl
    | succ k =>
      have e : (k + 1) * sz + j = sz + (k * sz + j) := by rw [Nat.succ_mul]; omega
      rw [e, List.getElem?_append_right (by rw [hf]; omega), hf, Nat.add_sub_cancel_left, ih k (by simpa using hk)]
      rfl
theorem flat_length {α : Type} (f : α → List Value) (sz : Nat) (hf : ∀ x, (f x).length = sz) (xs : List α) : (xs.flatMap f).length = xs.length * sz := by
  induction xs with
  | nil => simp
  | cons x r ih => rw [List.flatMap_cons, List.length_append, hf, ih, List.length_cons, Nat.succ_mul]; omega
/-- cells written one behind the other from i on -/
def sets (xs : List Value) (i : Nat) : List Value → List Value
  | [] => xs
  | v :: r => sets (xs.set i v) (i + 1) r
theorem sets_cons_succ (x : Value) (l : List Value) (vs : List Value) (i : Nat) : sets (x :: l) (i + 1) vs = x :: sets l i vs := by
  induction vs generalizing l i with
  | nil => rfl
  | cons v r ih => simp only [sets, List.set_cons_succ]; exact ih _ _
theorem sets_append_right (a l vs : List Value) (i : Nat) : sets (a ++ l) (a.length + i) vs = a ++ sets l i vs := by
  induction a with
  | nil => simp
  | cons x a ih =>
    have e : (x :: a).length + i = (a.length + i) + 1 := by simp; omega
    rw [e, List.cons_append, sets_cons_succ, ih]; rfl
theorem sets_front (a l vs : List Value) (h : a.length = vs.length) : sets (a ++ l) 0 vs = vs ++ l := by
  induction vs generalizing a with
  | nil => have : a = [] := List.eq_nil_of_length_eq_zero (by simpa using h); subst this; rfl
  | cons v r ih =>
    match a, h with
    | x :: a, h =>
      simp only [sets, List.cons_append, List.set_cons_zero]
      rw [sets_cons_succ, ih a (by simpa using h)]
theorem flat_sets {α : Type} (f : α → List Value) (sz : Nat) (hf : ∀ x, (f x).length = sz) (xs : List α) (k : Nat) (hk : k < xs.length) (x : α) : sets (xs.flatMap f) (k * sz) (f x) = (xs.set k x).flatMap f := by
  induction xs generalizing k with
  | nil => simp at hk
  | cons y r ih =>
    cases k with
    | zero => rw [List.flatMap_cons, List.set_cons_zero, List.flatMap_cons, Nat.zero_mul]; exact sets_front _ _ _ (by rw [hf, hf])
    | succ k =>
      have e : (k + 1) * sz = (f y).length + k * sz := by rw [hf, Nat.succ_mul]; omega
      rw [List.flatMap_cons, List.set_cons_succ, List.flatMap_cons, e, sets_append_right, ih k (by simpa using hk)]
theorem flat_replicate {α : Type} (f : α → List Value) (sz : Nat) (hf : ∀ x, (f x).length = sz) (hs : 0 < sz) (z : Value) (x : α) (hz : z.cells = (f x).toArray) (n : Nat) : (madeCells z.cells (n * sz)).toList = (List.replicate n x).flatMap f := by
  apply List.ext_getElem?
  intro i
  by_cases hi : i < n * sz
  · have e : i = (i / sz) * sz + i % sz := by rw [Nat.mul_comm]; exact (Nat.div_add_mod i sz).symm
    have hk : i / sz < n := Nat.div_lt_of_lt_mul (by rw [Nat.mul_comm]; exact hi)
    have hm : i % sz < sz := Nat.mod_lt _ hs
    have h1 : ((List.replicate n x).flatMap f)[i]? = (f x)[i % sz]? := by
      conv => lhs; rw [e]
      rw [flat_get f sz hf _ _ _ (by simpa using hk) hm]; simp
    rw [h1]
    have hm' : i % sz < (f x).length := by rw [hf]; exact hm
    simp only [madeCells, hz]
    simp [hi, hf, List.getElem?_eq_getElem hm']
  · rw [List.getElem?_eq_none (by rw [Array.length_toList, size_madeCells]; omega), List.getElem?_eq_none (by rw [flat_length f sz hf]; simp; omega)]
/-- make([]T, n) of elements of several cells -/
theorem wpList_mkN {P : Program} {w0 w : World} {ops : Array Oper} {rest : List Oper} {o : Oper} {a : Act} {Q : Exit → Act → World → Prop} (hgd : o.guard = none) (l c : Operand) (t : TypeId) (ho : o.op = Op.makeSlice t l c)
    {e : TypeId} {sz bt : Nat} (T : ElemT P t e sz bt) {α : Type} (f : α → List Value) (hf : ∀ x, (f x).length = sz) (x : α) (z : Value) (hz : (P.info? e).map (fun i => i.zero) = some (some z)) (hz1 : z.cells = (f x).toArray) (hB : Below w0.heap.size w0 w) (kl kc : IntKind) (L C : Int) (n : Nat) (hl : a.eval l = .int kl L) (hc : a.eval c = .int kc C) (hL : L = (n : Int)) (hC : C = (n : Int)) (b2 : bt * n ≤ 281474976710656) (b3 : n ≤ maxLen)
    (h : ∀ w', Own w0 w' e sz (.slice (some ⟨w.heap.size, 0, none⟩) n n) n ((List.replicate n x).flatMap f) → w.heap.size < w'.heap.size → w.grownBy w' none → wpList P ops Q rest (a.put o.dst (.slice (some ⟨w.heap.size, 0, none⟩) n n)) w') : wpList P ops Q (o :: rest) a w := by
  obtain ⟨i, z', hi, hz', hs, hbt, hzs⟩ := T.info
  have hzz : z' = z := by rw [hi] at hz; simpa [hz'] using hz
  subst hzz
  exact wpList_make_full w hgd l c t ho w0.heap.size e i z' sz T.under hi hz' hs kl kc L C n hl hc hL hC (by rw [hbt]; exact b2) b3 hB.size fun w' own hg => by
    have hlt := (own.lt w.heap.size rfl).2
    exact h w' ⟨by rw [flat_replicate f sz hf T.pos z' x hz1 n] at own; exact own, hB.grown hg hB.size (fun k hk => by cases hk)⟩ hlt hg
/-- a slice that reads as a list of things of sz cells each -/
def IsRows {α : Type} (sz : Nat) (f : α → List Value) (w : World) (v : Value) (xs : List α) : Prop := ∃ A c, v = .slice A xs.length c ∧ xs.length ≤ c ∧ c ≤ maxLen ∧ Rd w sz A xs.length (xs.flatMap f)
theorem IsRows.below {α : Type} {sz : Nat} {f : α → List Value} {w w' : World} {v : Value} {xs : List α} (h : IsRows sz f w v xs) (hb : Below w.heap.size w w') : IsRows sz f w' v xs := by
  obtain ⟨A, c, e, h1, h2, h3⟩ := h
  exact ⟨A, c, e, h1, h2, h3.below hb⟩
theorem rd_flat {α : Type} {w : World} {A : Option Addr} {sz : Nat} {f : α → List Value} (hf : ∀ x, (f x).length = sz) {xs : List α} (rd : Rd w sz A xs.length (xs.flatMap f)) {k : Nat} (hk : k < xs.length) :
    ∃ b off, A = some ⟨b, off, none⟩ ∧ ∀ j u, j < sz → (f xs[k])[j]? = some u → w.cell? ⟨b, off + (k * sz + j), none⟩ = some u := by
  obtain ⟨b, off, e, hc⟩ := rd.2 (by omega)
  exact ⟨b, off, e, fun j u hj hu => hc _ _ (by rw [flat_get f sz hf xs k j hk hj]; exact hu)⟩
theorem own_cap' {w0 w : World} {e : TypeId} {sz n c : Nat} {A : Option Addr} {xs : List Value} (h : Own w0 w e sz (.slice A n c) n xs) : c ≤ maxLen := by
  rcases h.1.2 with ⟨h1, _⟩ | ⟨g, cap, cur, h1, _, _, _, hm, _⟩
  · injection h1 with _ _ h2; subst h2; simp [maxLen]
  · injection h1 with _ _ h2; subst h2; exact hm
theorem IsRows.of_own {α : Type} {sz : Nat} {f : α → List Value} {w0 w : World} {e : TypeId} {v : Value} {xs : List α} (h : Own w0 w e sz v xs.length (xs.flatMap f)) : IsRows sz f w v xs := by
  obtain ⟨A, c, rfl, hc⟩ := h.slice
  exact ⟨A, c, rfl, hc, own_cap' h, h.rd⟩
end Go.Proofs.YtefcdpkficojgaaDoor
