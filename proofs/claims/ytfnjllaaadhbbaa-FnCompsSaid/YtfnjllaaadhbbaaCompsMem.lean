/- Lists of lists of numbers as they are gathered in memory, beside a matrix of bools and a row of bools. -/
import Derived.Test.YtfnjllaaadhbbaaComps
import Derived.Test.YtfnjllaaadhbbaaReach
import Derived.Test.YtfnjllaaadhbbaaInts
import Derived.Test.YtfnjllaaadhbbaaGrewG
namespace Go.Proofs.Ytfnjllaaadhbbaa
open Go.RowKit
set_option linter.unusedVariables false

def numV (l : List Nat) : List Value := l.map fun (j : Nat) => Value.int .i64 (j : Int)
theorem numV_len (l : List Nat) : (numV l).length = l.length := by simp [numV]
theorem numV_append (a b : List Nat) : numV (a ++ b) = numV a ++ numV b := by simp [numV]
def numI (l : List Nat) : List Int := l.map fun (j : Nat) => (j : Int)
theorem numI_vals (l : List Nat) : (numI l).map (Value.int .i64) = numV l := by simp [numI, numV]
theorem numI_len (l : List Nat) : (numI l).length = l.length := by simp [numI]
/-- the list v of lists of numbers, each in a row apart -/
def OutL (w0 w : World) (v : Value) (parts : List (List Nat)) : Prop :=
  ∃ us : List Value, us.length = parts.length ∧ Own w0 w 34 1 v parts.length us ∧ ∀ k (h : k < us.length) (h' : k < parts.length), OwnX w0.heap.size w 3 1 us[k] parts[k].length (numV parts[k])
theorem OutL.start (w0 w : World) (h : Below w0.heap.size w0 w) : OutL w0 w (.slice none 0 0) [] := ⟨[], rfl, Own.startB h _ _, fun k h => absurd h (by simp)⟩
theorem OutL.own {w0 w : World} {v : Value} {parts : List (List Nat)} (h : OutL w0 w v parts) : Below w0.heap.size w0 w := by
  obtain ⟨us, _, h2, _⟩ := h
  exact h2.2
theorem OutL.slice {w0 w : World} {v : Value} {parts : List (List Nat)} (h : OutL w0 w v parts) : ∃ A c, v = .slice A parts.length c ∧ parts.length ≤ c ∧ c ≤ maxLen := by
  obtain ⟨us, _, h2, _⟩ := h
  obtain ⟨A, c, rfl, hc⟩ := h2.slice
  exact ⟨A, c, rfl, hc, own_cap' h2⟩
/-- what keeps all rows of numbers and of slices of numbers keeps the list -/
theorem OutL.keep {w0 w w' : World} {v : Value} {parts : List (List Nat)} {S : Nat → Prop} (h : OutL w0 w v parts) (hk : Keep S w w') (h0 : ∀ b, b < w0.heap.size → S b) (hS : ∀ b cur, b < w.heap.size → (w.heap[b]? = some (.cells cur 3 (0, 0)) ∨ w.heap[b]? = some (.cells cur 34 (0, 0))) → S b) : OutL w0 w' v parts := by
  obtain ⟨us, h1, h2, h3⟩ := h
  refine ⟨us, h1, ?_, fun k hk1 hk2 => (h3 k hk1 hk2).keep hk fun b hb => ?_⟩
  · refine OwnX.toOwn ((OwnX.of_own h2).keep hk fun b hb => ?_) (h2.2.trans (hk.below h2.2.size h0)) (Nat.le_refl _)
    rcases h2.1.2 with ⟨rfl, _⟩ | ⟨g, cap, cur, rfl, _, hg, _⟩
    · cases hb
    · injection hb with hb
      subst hb
      exact hS _ cur (lt_of_block hg) (.inr hg)
  · rcases (h3 k hk1 hk2).1.2 with ⟨e, _⟩ | ⟨g, cap, cur, e, _, hg, _⟩
    · rw [e] at hb; cases hb
    · rw [e] at hb
      injection hb with hb
      subst hb
      exact hS _ cur (lt_of_block hg) (.inl hg)
theorem OutL.below {w0 w w' : World} {v : Value} {parts : List (List Nat)} (h : OutL w0 w v parts) (hb : Below w.heap.size w w') : OutL w0 w' v parts :=
  h.keep (S := fun _ => True) (Keep.of_below hb) (fun _ _ => trivial) (fun _ _ _ _ => trivial)
theorem OutL.add {w0 w w' : World} {v' : Value} {parts : List (List Nat)} {us : List Value} {u : Value} {l : List Nat} (h1 : us.length = parts.length) (h3 : ∀ k (h : k < us.length) (h' : k < parts.length), OwnX w0.heap.size w 3 1 us[k] parts[k].length (numV parts[k])) (hu : OwnX w0.heap.size w 3 1 u l.length (numV l))
    (own : Own w0 w' 34 1 v' (parts.length + 1) (us ++ [u])) (hk : KeepT 34 w w') : OutL w0 w' v' (parts ++ [l]) := by
  refine ⟨us ++ [u], by simp [h1], by rw [List.length_append]; exact own, fun k hk1 hk2 => ?_⟩
  rw [List.length_append] at hk1 hk2
  by_cases e : k < us.length
  · rw [List.getElem_append_left e, List.getElem_append_left (by omega)]
    exact (h3 k e (by omega)).keep hk ((h3 k e (by omega)).sane (by decide))
  · have ek : k = us.length := by simp at hk1; omega
    subst ek
    rw [List.getElem_append_right (Nat.le_refl _), List.getElem_append_right (by omega)]
    simp only [Nat.sub_self, List.getElem_cons_zero, h1]
    exact hu.keep hk (hu.sane (by decide))
theorem OwnX.lower {base base' : Nat} {w : World} {e : TypeId} {sz n : Nat} {v : Value} {xs : List Value} (h : OwnX base w e sz v n xs) (hle : base' ≤ base) : OwnX base' w e sz v n xs := by
  refine ⟨⟨h.1.1, ?_⟩, Nat.le_trans hle h.2⟩
  rcases h.1.2 with h' | ⟨g, cap, cur, e, hg, r⟩
  · exact .inl h'
  · exact .inr ⟨g, cap, cur, e, Nat.le_trans hle hg, r⟩
theorem OutL.intss {w0 w : World} {v : Value} {parts : List (List Nat)} (h : OutL w0 w v parts) : IsIntss w v (parts.map numI) := by
  obtain ⟨us, h1, h2, h3⟩ := h
  obtain ⟨A, c, rfl, hc⟩ := h2.slice
  refine ⟨A, c, us, by rw [List.length_map], by rw [List.length_map]; exact hc, own_cap' h2, by rw [List.length_map]; exact h2.rd, fun k hk => ?_⟩
  rw [List.length_map] at hk
  rw [List.getElem_map]
  have hk1 : k < us.length := by omega
  refine ⟨us[k], ?_, ?_⟩
  · rw [Nat.mul_one, List.drop_eq_getElem_cons hk1]; rfl
  · have ho := (h3 k hk1 hk).own
    obtain ⟨A2, c2, e2, hc2⟩ := ho.slice
    rw [e2] at ho
    exact ⟨A2, c2, by rw [e2, numI_len], by rw [numI_len]; exact hc2, own_cap' ho, by rw [numI_len, numI_vals]; exact ho.rd⟩
theorem MatO.base {w0 w1 w : World} {n c : Nat} {A : Option Addr} {gs : List Nat} {R : Rel} (h : MatO w1 w n A c gs R) (hb : Below w0.heap.size w0 w1) : MatO w0 w n A c gs R :=
  ⟨h.nd, (OwnX.of_own h.own).toOwn (hb.trans (h.own.2.mono hb.size)) hb.size, fun i hi => ⟨Nat.le_trans hb.size (h.row i hi).1, (h.row i hi).2⟩⟩
theorem MatO.keep {w0 w w' : World} {n c : Nat} {A : Option Addr} {gs : List Nat} {R : Rel} {S : Nat → Prop} (h : MatO w0 w n A c gs R) (hk : Keep S w w') (h0 : ∀ b, b < w0.heap.size → S b) (hS : ∀ b cur, b < w.heap.size → (w.heap[b]? = some (.cells cur 50 (0, 0)) ∨ b ∈ gs) → S b) : MatO w0 w' n A c gs R := by
  refine ⟨h.nd, OwnX.toOwn ((OwnX.of_own h.own).keep hk fun b hb => ?_) (h.own.2.trans (hk.below h.own.2.size h0)) (Nat.le_refl _), fun i hi => ⟨(h.row i hi).1, ?_⟩⟩
  · rcases h.own.1.2 with ⟨e, _⟩ | ⟨g, cap, cur, e, _, hg, _⟩
    · rw [e] at hb; cases hb
    · rw [e] at hb
      injection hb with hb
      subst hb
      exact hS _ cur (lt_of_block hg) (.inl hg)
  · exact (hk.block _ (lt_of_block (h.row i hi).2) (hS _ #[] (lt_of_block (h.row i hi).2) (.inr (List.getElem_mem hi)))).trans (h.row i hi).2
theorem MatO.lt {w0 w : World} {n c : Nat} {A : Option Addr} {gs : List Nat} {R : Rel} (h : MatO w0 w n A c gs R) {b : Nat} (hb : b ∈ gs) : b < w.heap.size ∧ w0.heap.size ≤ b ∧ ∃ cur, w.heap[b]? = some (.cells cur 4 (0, 0)) := by
  obtain ⟨i, hi, rfl⟩ := List.getElem_of_mem hb
  exact ⟨lt_of_block (h.row i hi).2, (h.row i hi).1, _, (h.row i hi).2⟩
/-- a row of bools -/
def ToldO (base : Nat) (w : World) (n g : Nat) (T : Nat → Bool) : Prop := base ≤ g ∧ w.heap[g]? = some (.cells (rowB n T).toArray 4 (0, 0))
theorem ToldO.cell {base : Nat} {w : World} {n g j : Nat} {T : Nat → Bool} (h : ToldO base w n g T) (hj : j < n) : w.cell? ⟨g, j, none⟩ = some (.bool (T j)) := by
  have hh := h.2
  simp only [World.cell?, hh]
  have := rowB_get (n := n) T hj
  simpa using this
theorem ToldO.free {base : Nat} {w : World} {n g : Nat} {T : Nat → Bool} (h : ToldO base w n g T) (j : Nat) : w.frozen? ⟨g, j, none⟩ = false := by
  have hh := h.2
  simp [World.frozen?, hh]
theorem ToldO.keep {base : Nat} {w w' : World} {n g : Nat} {T : Nat → Bool} {S : Nat → Prop} (h : ToldO base w n g T) (hk : Keep S w w') (hg : S g) : ToldO base w' n g T := ⟨h.1, (hk.block g (lt_of_block h.2) hg).trans h.2⟩
theorem ToldO.set {base : Nat} {w : World} {n g j : Nat} {T : Nat → Bool} (h : ToldO base w n g T) : ToldO base (w.setCell ⟨g, j, none⟩ (.bool true)) n g (fun x => if x = j then true else T x) := by
  refine ⟨h.1, ?_⟩
  rw [heap_setCell_same w g j _ _ _ h.2, List.setIfInBounds_toArray, rowB_set]
theorem ToldO.congr {base : Nat} {w : World} {n g : Nat} {T T' : Nat → Bool} (h : ToldO base w n g T) (he : ∀ j, j < n → T j = T' j) : ToldO base w n g T' := by
  refine ⟨h.1, ?_⟩
  rw [h.2]
  have : rowB n T = rowB n T' := by
    unfold rowB
    apply List.map_congr_left
    intro j hj
    rw [he j (by simpa using hj)]
  rw [this]
theorem intT1 : ElemT Try.prog 34 3 1 8 := ElemT.mk' (z := .int .i64 0) Try.underlying34 (by kernel_rfl) rfl (by decide)
theorem intsT1 : ElemT Try.prog 27 34 1 24 := ElemT.mk' (z := .slice none 0 0) Try.underlying27 (by kernel_rfl) rfl (by decide)
/-- below j -/
def partJ (W : Rel) (i j : Nat) : List Nat := (List.range j).filter (inPart W i)
theorem partJ_yes {W : Rel} {i j : Nat} (h : inPart W i j = true) : partJ W i (j + 1) = partJ W i j ++ [j] := by
  unfold partJ; rw [List.range_succ, List.filter_append]; simp [h]
theorem partJ_no {W : Rel} {i j : Nat} (h : inPart W i j = false) : partJ W i (j + 1) = partJ W i j := by
  unfold partJ; rw [List.range_succ, List.filter_append]; simp [h]
theorem partJ_len (W : Rel) (i j : Nat) : (partJ W i j).length ≤ j := by
  unfold partJ
  have := List.length_filter_le (inPart W i) (List.range j)
  simpa using this
def toldJ (W : Rel) (T : Nat → Bool) (i j : Nat) : Nat → Bool := fun x => T x || (decide (x < j) && inPart W i x)
theorem toldJ_zero (W : Rel) (T : Nat → Bool) (i : Nat) : toldJ W T i 0 = T := by funext x; simp [toldJ]
theorem toldJ_yes {W : Rel} {T : Nat → Bool} {i j : Nat} (h : inPart W i j = true) : (fun x => if x = j then true else toldJ W T i j x) = toldJ W T i (j + 1) := by
  funext x
  unfold toldJ
  by_cases e : x = j
  · subst e; rw [if_pos rfl, h]; simp
  · rw [if_neg e]
    congr 2
    rw [Bool.eq_iff_iff, decide_eq_true_eq, decide_eq_true_eq]; omega
theorem toldJ_no {W : Rel} {T : Nat → Bool} {i j : Nat} (h : inPart W i j = false) : toldJ W T i (j + 1) = toldJ W T i j := by
  funext x
  unfold toldJ
  by_cases e : x = j
  · subst e; rw [h]; simp
  · congr 2
    rw [Bool.eq_iff_iff, decide_eq_true_eq, decide_eq_true_eq]; omega
theorem toldJ_all {W : Rel} {T : Nat → Bool} {i n x : Nat} (h : x < n) : toldJ W T i n x = toldN W T i x := by
  unfold toldJ toldN
  rw [decide_eq_true h, Bool.true_and]
def okJ (W : Rel) (T : Nat → Bool) (i j : Nat) : Bool := !T i && (List.range j).all (readyJ W T i)
theorem okJ_zero (W : Rel) (T : Nat → Bool) (i : Nat) : okJ W T i 0 = !T i := by simp [okJ]
theorem okJ_succ (W : Rel) (T : Nat → Bool) (i j : Nat) : okJ W T i (j + 1) = (okJ W T i j && readyJ W T i j) := by
  unfold okJ; rw [List.range_succ, List.all_append]; simp [Bool.and_assoc]
theorem okJ_false {W : Rel} {T : Nat → Bool} {i j n : Nat} (h : okJ W T i j = false) (hj : j ≤ n) : readyB n W T i = false := by
  cases hr : readyB n W T i with
  | false => rfl
  | true =>
    exfalso
    obtain ⟨h1, h2⟩ := ready_told hr
    unfold okJ at h
    rw [h1] at h
    simp only [Bool.not_false, Bool.true_and] at h
    rw [List.all_eq_false] at h
    obtain ⟨x, hx, hn⟩ := h
    exact hn (h2 x (by have : x < j := by simpa using hx
                       omega))
theorem okJ_true {W : Rel} {T : Nat → Bool} {i n : Nat} (h : okJ W T i n = true) : readyB n W T i = true := h
theorem gr_ne {v v' : Value} {w w' : World} {g : Nat} (h : Grew v v' w w') (hv : v.ownBlock ≠ some g) (hg : g < w.heap.size) : v'.ownBlock ≠ some g := by
  intro e
  rcases h.lies with h1 | ⟨b, h1, h2⟩
  · exact hv (h1.symm.trans e)
  · rw [h1] at e; injection e with e; omega
end Go.Proofs.Ytfnjllaaadhbbaa
