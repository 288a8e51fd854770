/- Several texts in one: StOk, StTxt. -/
import Derived.Test.YtefcdpkficojgaaDoorKb20
import Derived.Test.YtefcdpkficojgaaDoorKb23
import Derived.Test.YtefcdpkficojgaaDoorKb12
namespace Go.Proofs.YtefcdpkficojgaaDoor
open Go.RowKit
set_option linter.unusedVariables false


def manyB (k : Int) : Bool := (k == 2) || (k == 3)
mutual
noncomputable def rightG (deep : Nat) : St → Bool
  | .mk k s t b e => shapeG (.mk k s t b e) && (if manyB k = true then decide (deep ≠ 0) && rightGs (deep - 1) b && rightGs (deep - 1) e else true)
noncomputable def rightGs (deep : Nat) : List St → Bool
  | [] => true
  | g :: r => rightG deep g && rightGs deep r
end
theorem rightG_mk (deep : Nat) (k : Int) (s : ByteArray) (t : Tm) (b e : List St) : rightG deep (.mk k s t b e) = (shapeG (.mk k s t b e) && (if manyB k = true then decide (deep ≠ 0) && rightGs (deep - 1) b && rightGs (deep - 1) e else true)) := by rw [rightG]
theorem rightGs_append (deep : Nat) (l r : List St) : rightGs deep (l ++ r) = (rightGs deep l && rightGs deep r) := by
  induction l with
  | nil => simp [rightGs]
  | cons t l ih => rw [List.cons_append, rightGs, rightGs, ih, Bool.and_assoc]
theorem rightGs_take (deep : Nat) (l : List St) (j : Nat) (h : j < l.length) : rightGs deep (l.take (j + 1)) = (rightGs deep (l.take j) && rightG deep l[j]) := by
  have e : l.take (j + 1) = l.take j ++ [l[j]] := List.take_succ_eq_append_getElem h
  rw [e, rightGs_append]; simp [rightGs]
theorem rightGs_no (deep : Nat) (l : List St) (j : Nat) (h : j < l.length) (hn : rightG deep l[j] = false) : rightGs deep l = false := by
  have e : rightGs deep l = (rightGs deep (l.take j) && rightGs deep (l.drop j)) := by rw [← rightGs_append, List.take_append_drop]
  rw [e, List.drop_eq_getElem_cons h, rightGs, hn]; simp
theorem rightG_shape {deep : Nat} {g : St} (h : shapeG g = false) : rightG deep g = false := by
  obtain ⟨k, s, t, b, e⟩ := g
  rw [rightG_mk, h, Bool.false_and]
theorem rightG_plain {deep : Nat} {k : Int} {s : ByteArray} {t : Tm} {b e : List St} (h : shapeG (.mk k s t b e) = true) (hm : manyB k = false) : rightG deep (.mk k s t b e) = true := by
  rw [rightG_mk, h, hm]; simp
theorem rightG_many {deep : Nat} {k : Int} {s : ByteArray} {t : Tm} {b e : List St} (h : shapeG (.mk k s t b e) = true) (hm : manyB k = true) : rightG deep (.mk k s t b e) = (decide (deep ≠ 0) && rightGs (deep - 1) b && rightGs (deep - 1) e) := by
  rw [rightG_mk, h, hm]; simp
theorem totG_body {k : Int} {s : ByteArray} {t : Tm} {b e : List St} : totGs b ≤ totG (.mk k s t b e) ∧ totGs e ≤ totG (.mk k s t b e) := by rw [totG]; omega
theorem many_no {k : Int} (h : manyB k = false) : (k == 2) = false ∧ (k == 3) = false := by simpa [manyB] using h
theorem many_yes {k : Int} (h : manyB k = true) : (k == 2) = true ∨ ((k == 2) = false ∧ (k == 3) = true) := by
  unfold manyB at h
  cases h2 : (k == 2) with
  | true => exact .inl rfl
  | false => rw [h2, Bool.false_or] at h; exact .inr ⟨rfl, h⟩
theorem totGs_lt {l : List St} {x : St} (h : x ∈ l) : totG x < totGs l := by
  induction l with
  | nil => cases h
  | cons y r ih =>
    rw [totGs]
    rcases List.mem_cons.1 h with rfl | h
    · omega
    · have := ih h; omega

def blanksL (n : Nat) : List UInt8 := List.replicate n 32
theorem blanksL_len (n : Nat) : (blanksL n).length = n := by simp [blanksL]
def wdB (k : Int) : ByteArray := if k = 2 then ⟨#[105, 102]⟩ else if k = 3 then ⟨#[119, 104, 105, 108, 101]⟩ else if k = 4 then ⟨#[99, 97, 108, 108]⟩ else if k = 5 then ⟨#[115, 112, 97, 119, 110]⟩ else if k = 6 then ⟨#[108, 111, 99, 107]⟩ else if k = 7 then ⟨#[117, 110, 108, 111, 99, 107]⟩ else ⟨#[115, 107, 105, 112]⟩
def wdL (k : Int) : List UInt8 := (wdB k).data.toList
theorem wdL_len (k : Int) : (wdL k).length ≤ 6 := by
  unfold wdL wdB
  repeat' split
  all_goals decide
def elseL (ah : Nat) (et : List UInt8) (n : Nat) : List UInt8 := if n = 0 then [] else [32, 101, 108, 115, 101] ++ ([32, 123, 10] ++ et ++ blanksL ah ++ [125])
def bodyL (ah : Nat) (k : Int) (nm tx bt et : List UInt8) (n : Nat) : List UInt8 :=
  if k = 1 then nm ++ [32, 61, 32] ++ tx ++ [59]
  else if k = 2 ∨ k = 3 then wdL k ++ [32] ++ tx ++ ([32, 123, 10] ++ bt ++ blanksL ah ++ [125]) ++ elseL ah et n
  else if k = 8 then [115, 107, 105, 112, 59]
  else wdL k ++ [32] ++ nm ++ [59]
mutual
def txtG (ah : Nat) : St → List UInt8
  | .mk k s t b e => blanksL ah ++ bodyL ah k s.data.toList (txtT t) (txtGs (ah + 1) b) (txtGs (ah + 1) e) e.length ++ [10]
def txtGs (ah : Nat) : List St → List UInt8
  | [] => []
  | g :: r => txtG ah g ++ txtGs ah r
end
theorem txtGs_append (ah : Nat) (l r : List St) : txtGs ah (l ++ r) = txtGs ah l ++ txtGs ah r := by
  induction l with
  | nil => simp [txtGs]
  | cons t l ih => rw [List.cons_append, txtGs, txtGs, ih, List.append_assoc]
theorem txtGs_take (ah : Nat) (l : List St) (j : Nat) (h : j < l.length) : txtGs ah (l.take (j + 1)) = txtGs ah (l.take j) ++ txtG ah l[j] := by
  have e : l.take (j + 1) = l.take j ++ [l[j]] := List.take_succ_eq_append_getElem h
  rw [e, txtGs_append]; simp [txtGs]
theorem txtG_1 {ah : Nat} {s : ByteArray} {t : Tm} {b e : List St} : txtG ah (.mk 1 s t b e) = blanksL ah ++ (s.data.toList ++ [32, 61, 32]) ++ txtT t ++ [59] ++ [10] := by
  rw [txtG, bodyL, if_pos rfl]; simp
theorem txtG_m {ah : Nat} {k : Int} {s : ByteArray} {t : Tm} {b e : List St} (hk : k = 2 ∨ k = 3) : txtG ah (.mk k s t b e) = blanksL ah ++ (wdL k ++ [32]) ++ txtT t ++ ([32, 123, 10] ++ txtGs (ah + 1) b ++ blanksL ah ++ [125]) ++ elseL ah (txtGs (ah + 1) e) e.length ++ [10] := by
  rw [txtG, bodyL, if_neg (by omega), if_pos hk]; simp
theorem txtG_8 {ah : Nat} {s : ByteArray} {t : Tm} {b e : List St} : txtG ah (.mk 8 s t b e) = blanksL ah ++ [115, 107, 105, 112, 59] ++ [10] := by
  rw [txtG, bodyL, if_neg (by omega), if_neg (by omega), if_pos rfl]
theorem txtG_w {ah : Nat} {k : Int} {s : ByteArray} {t : Tm} {b e : List St} (hk : k = 4 ∨ k = 5 ∨ k = 6 ∨ k = 7) : txtG ah (.mk k s t b e) = blanksL ah ++ (wdL k ++ [32] ++ s.data.toList ++ [59]) ++ [10] := by
  rw [txtG, bodyL, if_neg (by omega), if_neg (by omega), if_neg (by omega)]
theorem shape_kind {k : Int} {s : ByteArray} {t : Tm} {b e : List St} (h : shapeG (.mk k s t b e) = true) : k = 1 ∨ k = 2 ∨ k = 3 ∨ k = 4 ∨ k = 5 ∨ k = 6 ∨ k = 7 ∨ k = 8 := by
  rw [shapeG, shapeB] at h
  by_cases h1 : k = 1
  · exact .inl h1
  rw [if_neg h1] at h
  by_cases h2 : k = 2
  · exact .inr (.inl h2)
  rw [if_neg h2] at h
  by_cases h3 : k = 3
  · exact .inr (.inr (.inl h3))
  rw [if_neg h3] at h
  by_cases h4 : k = 4 ∨ k = 5 ∨ k = 6 ∨ k = 7
  · omega
  rw [if_neg h4] at h
  by_cases h8 : k = 8
  · omega
  rw [if_neg h8] at h
  cases h
theorem len0 {α : Type} {l : List α} (h : ((l.length : Int) == 0) = true) : l = [] := by
  rw [beq_iff_eq] at h
  exact List.eq_nil_of_length_eq_zero (by omega)
theorem shape_1 {s : ByteArray} {t : Tm} {b e : List St} (h : shapeG (.mk 1 s t b e) = true) : isNameL s.data.toList = true ∧ okT 6 t = true ∧ b = [] ∧ e = [] := by
  rw [shapeG, shapeB, if_pos rfl] at h
  simp only [Bool.and_eq_true] at h
  exact ⟨h.1.1.1, h.1.1.2, len0 h.1.2, len0 h.2⟩
theorem shape_2 {s : ByteArray} {t : Tm} {b e : List St} (h : shapeG (.mk 2 s t b e) = true) : okT 6 t = true := by
  rw [shapeG, shapeB, if_neg (by decide), if_pos rfl] at h
  simp only [Bool.and_eq_true] at h
  exact h.2
theorem shape_3 {s : ByteArray} {t : Tm} {b e : List St} (h : shapeG (.mk 3 s t b e) = true) : okT 6 t = true ∧ e = [] := by
  rw [shapeG, shapeB, if_neg (by decide), if_neg (by decide), if_pos rfl] at h
  simp only [Bool.and_eq_true] at h
  exact ⟨h.1.2, len0 h.2⟩
theorem shape_w {k : Int} {s : ByteArray} {t : Tm} {b e : List St} (hk : k = 4 ∨ k = 5 ∨ k = 6 ∨ k = 7) (h : shapeG (.mk k s t b e) = true) : isNameL s.data.toList = true ∧ b = [] ∧ e = [] := by
  rw [shapeG, shapeB, if_neg (by omega), if_neg (by omega), if_neg (by omega), if_pos hk] at h
  simp only [Bool.and_eq_true] at h
  exact ⟨h.1.1.1, len0 h.1.2, len0 h.2⟩
theorem right_shape {deep : Nat} {g : St} (h : rightG deep g = true) : shapeG g = true := by
  cases hs : shapeG g with
  | true => rfl
  | false => rw [rightG_shape hs] at h; cases h
theorem rightGs_get {deep : Nat} {l : List St} (h : rightGs deep l = true) {j : Nat} (hj : j < l.length) : rightG deep l[j] = true := by
  cases hr : rightG deep l[j] with
  | true => rfl
  | false => rw [rightGs_no deep l j hj hr] at h; cases h
theorem right_many {deep : Nat} {k : Int} {s : ByteArray} {t : Tm} {b e : List St} (hk : k = 2 ∨ k = 3) (h : rightG deep (.mk k s t b e) = true) : okT 6 t = true ∧ ∃ d, deep = d + 1 ∧ rightGs d b = true ∧ rightGs d e = true := by
  have hs := right_shape h
  have hm : manyB k = true := by rcases hk with rfl | rfl <;> decide
  rw [rightG_many hs hm, Bool.and_eq_true, Bool.and_eq_true, decide_eq_true_eq] at h
  refine ⟨?_, deep - 1, by omega, h.1.2, h.2⟩
  rcases hk with rfl | rfl
  · exact shape_2 hs
  · exact (shape_3 hs).1
/-- the lines of right statements are short -/
theorem txtG_len : ∀ (N : Nat) (g : St), snodes g = N → ∀ (deep ah : Nat), rightG deep g = true → ah + deep ≤ 26 → (txtG ah g).length ≤ 3000 * snodes g := by
  intro N
  induction N using Nat.strongRecOn with
  | ind N ih =>
    intro g hN deep ah h hd
    have many : ∀ (l : List St) (d : Nat), (∀ x ∈ l, snodes x < N) → rightGs d l = true → ah + 1 + d ≤ 26 → (txtGs (ah + 1) l).length ≤ 3000 * snodess l := by
      intro l
      induction l with
      | nil => intro d _ _ _; simp [txtGs]
      | cons x r ihl =>
        intro d hx hr hd'
        rw [rightGs, Bool.and_eq_true] at hr
        have h1 := ih (snodes x) (hx x (by simp)) x rfl d (ah + 1) hr.1 hd'
        have h2 := ihl d (fun y hy => hx y (by simp [hy])) hr.2 hd'
        rw [txtGs, snodess, List.length_append]
        omega
    obtain ⟨k, s, t, b, e⟩ := g
    have hs := right_shape h
    have hk := shape_kind hs
    have hw := wdL_len k
    by_cases hm : k = 2 ∨ k = 3
    · obtain ⟨ht, d, rfl, hb, he⟩ := right_many hm h
      have h1 := many b d (fun x hx => by rw [← hN]; exact body_lt hx) hb (by omega)
      have h2 := many e d (fun x hx => by rw [← hN]; exact else_lt hx) he (by omega)
      have h3 := txt_len 6 t ht
      have h4 := blanksL_len ah
      rw [txtG_m hm, snodes, elseL]
      split
      all_goals
        simp only [List.length_append, List.length_cons, List.length_nil, h4]
        omega
    by_cases h1 : k = 1
    · subst h1
      obtain ⟨hn, ht, rfl, rfl⟩ := shape_1 hs
      have h3 := txt_len 6 t ht
      have h4 := blanksL_len ah
      have h5 := name_len hn
      rw [txtG_1, snodes]
      simp only [List.length_append, List.length_cons, List.length_nil, h4]
      omega
    by_cases h8 : k = 8
    · subst h8
      have h4 := blanksL_len ah
      rw [txtG_8, snodes]
      simp only [List.length_append, List.length_cons, List.length_nil, h4]
      omega
    have hkw : k = 4 ∨ k = 5 ∨ k = 6 ∨ k = 7 := by omega
    obtain ⟨hn, rfl, rfl⟩ := shape_w hkw hs
    have h4 := blanksL_len ah
    have h5 := name_len hn
    rw [txtG_w hkw, snodes]
    simp only [List.length_append, List.length_cons, List.length_nil, h4]
    omega
theorem txtGs_len {l : List St} {deep ah : Nat} (h : rightGs deep l = true) (hd : ah + deep ≤ 26) : (txtGs ah l).length ≤ 3000 * snodess l := by
  induction l with
  | nil => simp [txtGs]
  | cons x r ih =>
    rw [rightGs, Bool.and_eq_true] at h
    have h1 := txtG_len _ x rfl deep ah h.1 hd
    have h2 := ih h.2
    rw [txtGs, snodess, List.length_append]
    omega
end Go.Proofs.YtefcdpkficojgaaDoor
