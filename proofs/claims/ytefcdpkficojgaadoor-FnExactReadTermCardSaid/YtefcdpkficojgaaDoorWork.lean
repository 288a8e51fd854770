/- What a right term comes to: the contracts of the reference's and the program's walks over a term. -/
import Derived.Test.YtefcdpkficojgaaDoorTermOkLaw
import Derived.Test.YtefcdpkficojgaaDoorInts
namespace Go.Proofs.YtefcdpkficojgaaDoor
open Go.RowKit
set_option linter.unusedVariables false

/-- what is left by 1000, from 0 on -/
def modK (n : Int) : Int := n % 1000
def yesK (b : Bool) : Int := match b with | true => 1 | false => 0
theorem modK_le (n : Int) : 0 ≤ modK n ∧ modK n ≤ 999 := by unfold modK; omega
theorem yesK_le (b : Bool) : 0 ≤ yesK b ∧ yesK b ≤ 999 := by cases b <;> simp [yesK]
theorem tmod_cases (n : Int) : (0 ≤ n ∧ n.tmod 1000 = n % 1000) ∨ (n < 0 ∧ n.tmod 1000 = -((-n) % 1000)) := by
  by_cases h : 0 ≤ n
  · exact .inl ⟨h, Int.tmod_eq_emod_of_nonneg h⟩
  · refine .inr ⟨by omega, ?_⟩
    rw [← Int.tmod_eq_emod_of_nonneg (by omega : 0 ≤ -n), Int.neg_tmod, Int.neg_neg]
/-- what a name comes to -/
def varK (names : List ByteArray) (values : List Int) (s : ByteArray) : Int :=
  match names.findIdx? (fun x => decide (x = s)) with
  | some k => match values[k]? with
    | some v => modK v
    | none => 0
  | none => 0
theorem find_at {ss : List ByteArray} {x : ByteArray} {k : Nat} (h : ∀ s ∈ ss.take k, s ≠ x) (hk : k < ss.length) (e : ss[k] = x) : ss.findIdx? (fun s => decide (s = x)) = some k := by
  rw [List.findIdx?_eq_some_iff_getElem]
  refine ⟨hk, by simpa using e, fun j hj => ?_⟩
  have := h ss[j] (List.mem_take_iff_getElem.2 ⟨j, by omega, rfl⟩)
  simpa using this
theorem find_no {ss : List ByteArray} {x : ByteArray} (h : ∀ s ∈ ss, s ≠ x) : ss.findIdx? (fun s => decide (s = x)) = none := by
  rw [List.findIdx?_eq_none_iff]
  intro s hs
  simpa using h s hs
theorem varK_at {names : List ByteArray} {values : List Int} {s : ByteArray} {k : Nat} (h : names.findIdx? (fun x => decide (x = s)) = some k) (hk : k < values.length) : varK names values s = modK values[k] := by
  unfold varK; rw [h]; simp only [List.getElem?_eq_getElem hk]
theorem varK_over {names : List ByteArray} {values : List Int} {s : ByteArray} {k : Nat} (h : names.findIdx? (fun x => decide (x = s)) = some k) (hk : values.length ≤ k) : varK names values s = 0 := by
  unfold varK; rw [h]; simp only [List.getElem?_eq_none hk]
theorem varK_no {names : List ByteArray} {values : List Int} {s : ByteArray} (h : names.findIdx? (fun x => decide (x = s)) = none) : varK names values s = 0 := by
  unfold varK; rw [h]
theorem placeS_some {ss : List ByteArray} {x : ByteArray} {k : Nat} (h : ss.findIdx? (fun s => decide (s = x)) = some k) : placeS ss x = (k : Int) := by unfold placeS; rw [h]
theorem placeS_none {ss : List ByteArray} {x : ByteArray} (h : ss.findIdx? (fun s => decide (s = x)) = none) : placeS ss x = -1 := by unfold placeS; rw [h]
theorem varK_le (names : List ByteArray) (values : List Int) (s : ByteArray) : 0 ≤ varK names values s ∧ varK names values s ≤ 999 := by
  unfold varK
  split
  · split
    · exact modK_le _
    · omega
  · omega
/-- one operation -/
def opK (k a b : Int) : Int :=
  if k = 8 then yesK (a == 0) else if k = 3 then modK (a + b) else if k = 4 then modK (a - b) else if k = 5 then modK (a * b) else if k = 6 then yesK (decide (a < b)) else if k = 7 then yesK (a == b) else yesK (a != 0 && b != 0)
theorem opK_le (k a b : Int) : 0 ≤ opK k a b ∧ opK k a b ≤ 999 := by
  unfold opK
  repeat' split
  all_goals first | exact yesK_le _ | exact modK_le _
mutual
def valT (names : List ByteArray) (values : List Int) : Tm → Int
  | .mk k n s kids => if k = 1 then modK n else if k = 2 then varK names values s else opK k ((valTs names values kids)[0]?.getD 0) ((valTs names values kids)[1]?.getD 0)
def valTs (names : List ByteArray) (values : List Int) : List Tm → List Int
  | [] => []
  | t :: r => valT names values t :: valTs names values r
end
theorem valT_le (names : List ByteArray) (values : List Int) (t : Tm) : 0 ≤ valT names values t ∧ valT names values t ≤ 999 := by
  cases t with
  | mk k n s kids =>
    rw [valT]
    repeat' split
    · exact modK_le _
    · exact varK_le _ _ _
    · exact opK_le _ _ _
theorem valT_one {names : List ByteArray} {values : List Int} {n : Int} {s : ByteArray} {x : Tm} : valT names values (.mk 8 n s [x]) = yesK (valT names values x == 0) := by
  simp [valT, valTs, opK]
theorem valT_two {names : List ByteArray} {values : List Int} {k n : Int} {s : ByteArray} {x y : Tm} (h1 : k ≠ 1) (h2 : k ≠ 2) : valT names values (.mk k n s [x, y]) = opK k (valT names values x) (valT names values y) := by
  rw [valT, if_neg h1, if_neg h2, valTs, valTs]; rfl
theorem valT_num {names : List ByteArray} {values : List Int} {n : Int} {s : ByteArray} {kids : List Tm} : valT names values (.mk 1 n s kids) = modK n := by
  rw [valT, if_pos rfl]
theorem valT_var {names : List ByteArray} {values : List Int} {n : Int} {s : ByteArray} {kids : List Tm} : valT names values (.mk 2 n s kids) = varK names values s := by
  rw [valT, if_neg (by decide), if_pos rfl]
/-- a right term that is no leaf has one kid or two, right ones -/
theorem okT_kids {room : Nat} {k n : Int} {s : ByteArray} {kids : List Tm} (h1 : k ≠ 1) (h2 : k ≠ 2) (h : okT room (.mk k n s kids) = true) :
    ∃ r, room = r + 1 ∧ ((k = 8 ∧ ∃ x, kids = [x] ∧ okT r x = true) ∨ ((k = 3 ∨ k = 4 ∨ k = 5 ∨ k = 6 ∨ k = 7 ∨ k = 9) ∧ ∃ x y, kids = [x, y] ∧ okT r x = true ∧ okT r y = true)) := by
  have g1 : (k == 1) = false := beq_eq_false_iff_ne.2 h1
  have g2 : (k == 2) = false := beq_eq_false_iff_ne.2 h2
  cases room with
  | zero => rw [okT_zero g1 g2] at h; cases h
  | succ r =>
    rw [okT_more g1 g2] at h
    simp only [Bool.and_eq_true, beq_iff_eq] at h
    obtain ⟨⟨⟨⟨a1, a2⟩, a3⟩, a4⟩, a5⟩ := h
    have := inB_le a1
    refine ⟨r, rfl, ?_⟩
    by_cases e : k = 8
    · subst e
      simp only [manyK, if_true] at a4
      match kids, a4 with
      | [x], _ => exact .inl ⟨rfl, x, rfl, by simpa using a5⟩
    · rw [manyK, if_neg e] at a4
      match kids, a4 with
      | [x, y], _ => exact .inr ⟨by omega, x, y, rfl, by simpa using a5⟩
abbrev VaC (f : Nat) (names : List ByteArray) (values : List Int) (t : Tm) : Prop := ∀ (room : Nat) (k n : Int) (s : ByteArray) (A : Option Addr) (m c : Nat) (vn vi : Value) (w : World), okT room t = true → TmIs AnyB w [.int .i64 k, .int .i64 n, .string s, .slice A m c] t → IsStrs w vn names → IsInts w vi values → (∀ z ∈ values, i64in z) →
  Calls Tryd.prog f #[.agg #[.int .i64 k, .int .i64 n, .string s, .slice A m c], vn, vi] w fun e w' => e = .returned (.int .i64 (valT names values t)) ∧ Below w.heap.size w w'
end Go.Proofs.YtefcdpkficojgaaDoor
