/- Lemmas for the row. -/
import Derived.Test.YtadcebdhgocmhaaKo13
import Derived.Test.YtadcebdhgocmhaaKo14
import Derived.Test.YtadcebdhgocmhaaKo21
namespace Go.Proofs.Ytadcebdhgocmhaa
open Go.RowKit
set_option linter.unusedVariables false
def shapeB (k : Int) (nm se ok zr be ee : Bool) : Bool :=
  if k = 1 then nm && ok && be && ee else if k = 2 then se && ok else if k = 3 then se && ok && ee else if k = 4 ∨ k = 5 ∨ k = 6 ∨ k = 7 then nm && zr && be && ee else if k = 8 then se && zr && be && ee else false
noncomputable def shapeG : St → Bool
  | .mk k s t b e => shapeB k (isNameL s.data.toList) s.toList.isEmpty (okT 6 t) (sameB t zeroTm) ((b.length : Int) == 0) ((e.length : Int) == 0)
theorem sum_yes {a b : Nat} (h : ((a : Int) == 0) = true) (h' : ((b : Int) == 0) = true) : ((a : Int) + (b : Int) == 0) = true := by
  rw [beq_iff_eq] at *; omega
theorem sum_no {a b : Nat} (h : ((a : Int) == 0) = false ∨ ((b : Int) == 0) = false) : ((a : Int) + (b : Int) == 0) = false := by
  rcases h with h | h
  all_goals
    rw [beq_eq_false_iff_ne] at *; omega
theorem kidT_zero {w : World} : TmIs AnyB w [.int .i64 0, .int .i64 0, .string ByteArray.empty, .slice none 0 0] zeroTm := TmIs.mk' (kids := []) (by unfold i64in; omega) (by unfold i64in; omega) (by simp [maxLen]) (by simp) (by simp [maxLen]) ⟨[], Rd.nil, fun _ _ _ h => absurd h (by simp), fun i h => absurd h (by simp)⟩
set_option maxHeartbeats 800000 in
theorem impl_shape_1 (s : ByteArray) (t : Tm) (tk tn : Int) (ts : ByteArray) (tA : Option Addr) (tm tc : Nat) (bA : Option Addr) (bc : Nat) (eA : Option Addr) (ec : Nat) (body els : List St) (w : World) (ht : TmIs AnyB w [.int .i64 tk, .int .i64 tn, .string ts, .slice tA tm tc] t) (hb : body.length ≤ 1048576) (he : els.length ≤ 1048576) :
    Calls Try.prog 98 #[.agg #[.int .i64 1, .string s, .int .i64 tk, .int .i64 tn, .string ts, .slice tA tm tc, .slice bA body.length bc, .slice eA els.length ec]] w fun e w' => e = .returned (.bool (shapeB 1 (isNameL s.data.toList) (s.toList.isEmpty) (okT 6 t) (sameB t zeroTm) ((body.length : Int) == 0) ((els.length : Int) == 0))) ∧ Below w.heap.size w w' := by
  have HT := Lib.hid ht
  clear ht
  cases h1 : isNameL s.data.toList with
  | false =>
    go_enter Try.func98, Try.ntmps98
    go_wp2_with fail
    refine (impl_IsName s _).mono ?_
    rintro e wn ⟨rfl, rfl⟩
    rw [h1]
    go_wp2_with fail
    go_ret
    exact ⟨ret_bool (by simp [shapeB]), (by repeat' first|exact .refl _ _|exact Nat.le_refl _|refine .alloc ?_ ?_ _|refine .setCell ?_ ?_ _|refine .drew ?_|refine below_drewN ?_ _|assumption|(simp;done)|(simp;omega))⟩
  | true =>
    cases h3 : okT 6 t with
    | false =>
      go_enter Try.func98, Try.ntmps98
      go_wp2_with fail
      refine (impl_IsName s _).mono ?_
      rintro e wn ⟨rfl, rfl⟩
      rw [h1]
      go_wp2_with fail
      refine (impl_TermOk t tk tn ts tA tm tc _ (HT.out.belowA (by repeat' first|exact .refl _ _|exact Nat.le_refl _|refine .alloc ?_ ?_ _|refine .setCell ?_ ?_ _|refine .drew ?_|refine below_drewN ?_ _|assumption|(simp;done)|(simp;omega)))).mono ?_
      rintro e w1 ⟨rfl, b1⟩
      have H1 : Hid (Below w.heap.size w w1) := Lib.hid (Below.trans (by repeat' first|exact .refl _ _|exact Nat.le_refl _|refine .alloc ?_ ?_ _|refine .setCell ?_ ?_ _|refine .drew ?_|refine below_drewN ?_ _|assumption|(simp;done)|(simp;omega)) (b1.mono (by simp)))
      have BX1 : Hid (BoxB w1 w.heap.size [.int .i64 1, .string s, .int .i64 tk, .int .i64 tn, .string ts, .slice tA tm tc, .slice bA body.length bc, .slice eA els.length ec]) := Lib.hid (BoxB.below (BoxB.lit rfl) b1)
      clear b1
      have x0 := BX1.out 0 _ rfl
      have x1 := BX1.out 1 _ rfl
      have x2 := BX1.out 2 _ rfl
      have x3 := BX1.out 3 _ rfl
      have x4 := BX1.out 4 _ rfl
      have x5 := BX1.out 5 _ rfl
      have x6 := BX1.out 6 _ rfl
      have x7 := BX1.out 7 _ rfl
      rw [h3]
      go_wp2_with fail
      go_ret
      exact ⟨ret_bool (by simp [shapeB]), H1.out⟩
    | true =>
      cases h5 : ((body.length : Int) == 0) with
      | false =>
        go_enter Try.func98, Try.ntmps98
        go_wp2_with fail
        refine (impl_IsName s _).mono ?_
        rintro e wn ⟨rfl, rfl⟩
        rw [h1]
        go_wp2_with fail
        refine (impl_TermOk t tk tn ts tA tm tc _ (HT.out.belowA (by repeat' first|exact .refl _ _|exact Nat.le_refl _|refine .alloc ?_ ?_ _|refine .setCell ?_ ?_ _|refine .drew ?_|refine below_drewN ?_ _|assumption|(simp;done)|(simp;omega)))).mono ?_
        rintro e w1 ⟨rfl, b1⟩
        have H1 : Hid (Below w.heap.size w w1) := Lib.hid (Below.trans (by repeat' first|exact .refl _ _|exact Nat.le_refl _|refine .alloc ?_ ?_ _|refine .setCell ?_ ?_ _|refine .drew ?_|refine below_drewN ?_ _|assumption|(simp;done)|(simp;omega)) (b1.mono (by simp)))
        have BX1 : Hid (BoxB w1 w.heap.size [.int .i64 1, .string s, .int .i64 tk, .int .i64 tn, .string ts, .slice tA tm tc, .slice bA body.length bc, .slice eA els.length ec]) := Lib.hid (BoxB.below (BoxB.lit rfl) b1)
        clear b1
        have x0 := BX1.out 0 _ rfl
        have x1 := BX1.out 1 _ rfl
        have x2 := BX1.out 2 _ rfl
        have x3 := BX1.out 3 _ rfl
        have x4 := BX1.out 4 _ rfl
        have x5 := BX1.out 5 _ rfl
        have x6 := BX1.out 6 _ rfl
        have x7 := BX1.out 7 _ rfl
        rw [h3]
        go_wp2_with fail
        go_ret
        exact ⟨ret_bool (by simp [shapeB]), H1.out⟩
      | true =>
        cases h6 : ((els.length : Int) == 0) with
        | false =>
          go_enter Try.func98, Try.ntmps98
          go_wp2_with fail
          refine (impl_IsName s _).mono ?_
          rintro e wn ⟨rfl, rfl⟩
          rw [h1]
          go_wp2_with fail
          refine (impl_TermOk t tk tn ts tA tm tc _ (HT.out.belowA (by repeat' first|exact .refl _ _|exact Nat.le_refl _|refine .alloc ?_ ?_ _|refine .setCell ?_ ?_ _|refine .drew ?_|refine below_drewN ?_ _|assumption|(simp;done)|(simp;omega)))).mono ?_
          rintro e w1 ⟨rfl, b1⟩
          have H1 : Hid (Below w.heap.size w w1) := Lib.hid (Below.trans (by repeat' first|exact .refl _ _|exact Nat.le_refl _|refine .alloc ?_ ?_ _|refine .setCell ?_ ?_ _|refine .drew ?_|refine below_drewN ?_ _|assumption|(simp;done)|(simp;omega)) (b1.mono (by simp)))
          have BX1 : Hid (BoxB w1 w.heap.size [.int .i64 1, .string s, .int .i64 tk, .int .i64 tn, .string ts, .slice tA tm tc, .slice bA body.length bc, .slice eA els.length ec]) := Lib.hid (BoxB.below (BoxB.lit rfl) b1)
          clear b1
          have x0 := BX1.out 0 _ rfl
          have x1 := BX1.out 1 _ rfl
          have x2 := BX1.out 2 _ rfl
          have x3 := BX1.out 3 _ rfl
          have x4 := BX1.out 4 _ rfl
          have x5 := BX1.out 5 _ rfl
          have x6 := BX1.out 6 _ rfl
          have x7 := BX1.out 7 _ rfl
          rw [h3]
          go_wp2_with fail
          go_ret
          exact ⟨ret_bool (by simp [shapeB]), H1.out⟩
        | true =>
          go_enter Try.func98, Try.ntmps98
          go_wp2_with fail
          refine (impl_IsName s _).mono ?_
          rintro e wn ⟨rfl, rfl⟩
          rw [h1]
          go_wp2_with fail
          refine (impl_TermOk t tk tn ts tA tm tc _ (HT.out.belowA (by repeat' first|exact .refl _ _|exact Nat.le_refl _|refine .alloc ?_ ?_ _|refine .setCell ?_ ?_ _|refine .drew ?_|refine below_drewN ?_ _|assumption|(simp;done)|(simp;omega)))).mono ?_
          rintro e w1 ⟨rfl, b1⟩
          have H1 : Hid (Below w.heap.size w w1) := Lib.hid (Below.trans (by repeat' first|exact .refl _ _|exact Nat.le_refl _|refine .alloc ?_ ?_ _|refine .setCell ?_ ?_ _|refine .drew ?_|refine below_drewN ?_ _|assumption|(simp;done)|(simp;omega)) (b1.mono (by simp)))
          have BX1 : Hid (BoxB w1 w.heap.size [.int .i64 1, .string s, .int .i64 tk, .int .i64 tn, .string ts, .slice tA tm tc, .slice bA body.length bc, .slice eA els.length ec]) := Lib.hid (BoxB.below (BoxB.lit rfl) b1)
          clear b1
          have x0 := BX1.out 0 _ rfl
          have x1 := BX1.out 1 _ rfl
          have x2 := BX1.out 2 _ rfl
          have x3 := BX1.out 3 _ rfl
          have x4 := BX1.out 4 _ rfl
          have x5 := BX1.out 5 _ rfl
          have x6 := BX1.out 6 _ rfl
          have x7 := BX1.out 7 _ rfl
          rw [h3]
          go_wp2_with fail
          go_ret
          exact ⟨ret_bool (by simp [shapeB]), H1.out⟩
set_option maxHeartbeats 800000 in
theorem impl_shape_2 (s : ByteArray) (t : Tm) (tk tn : Int) (ts : ByteArray) (tA : Option Addr) (tm tc : Nat) (bA : Option Addr) (bc : Nat) (eA : Option Addr) (ec : Nat) (body els : List St) (w : World) (ht : TmIs AnyB w [.int .i64 tk, .int .i64 tn, .string ts, .slice tA tm tc] t) (hb : body.length ≤ 1048576) (he : els.length ≤ 1048576) :
    Calls Try.prog 98 #[.agg #[.int .i64 2, .string s, .int .i64 tk, .int .i64 tn, .string ts, .slice tA tm tc, .slice bA body.length bc, .slice eA els.length ec]] w fun e w' => e = .returned (.bool (shapeB 2 (isNameL s.data.toList) (s.toList.isEmpty) (okT 6 t) (sameB t zeroTm) ((body.length : Int) == 0) ((els.length : Int) == 0))) ∧ Below w.heap.size w w' := by
  have HT := Lib.hid ht
  clear ht
  cases h2 : s.toList.isEmpty with
  | false =>
    go_enter Try.func98, Try.ntmps98
    go_wp2_with fail
    go_ret
    exact ⟨ret_bool (by simp [shapeB]), (by repeat' first|exact .refl _ _|exact Nat.le_refl _|refine .alloc ?_ ?_ _|refine .setCell ?_ ?_ _|refine .drew ?_|refine below_drewN ?_ _|assumption|(simp;done)|(simp;omega))⟩
  | true =>
    cases h3 : okT 6 t with
    | false =>
      go_enter Try.func98, Try.ntmps98
      go_wp2_with fail
      refine (impl_TermOk t tk tn ts tA tm tc _ (HT.out.belowA (by repeat' first|exact .refl _ _|exact Nat.le_refl _|refine .alloc ?_ ?_ _|refine .setCell ?_ ?_ _|refine .drew ?_|refine below_drewN ?_ _|assumption|(simp;done)|(simp;omega)))).mono ?_
      rintro e w1 ⟨rfl, b1⟩
      have H1 : Hid (Below w.heap.size w w1) := Lib.hid (Below.trans (by repeat' first|exact .refl _ _|exact Nat.le_refl _|refine .alloc ?_ ?_ _|refine .setCell ?_ ?_ _|refine .drew ?_|refine below_drewN ?_ _|assumption|(simp;done)|(simp;omega)) (b1.mono (by simp)))
      have BX1 : Hid (BoxB w1 w.heap.size [.int .i64 2, .string s, .int .i64 tk, .int .i64 tn, .string ts, .slice tA tm tc, .slice bA body.length bc, .slice eA els.length ec]) := Lib.hid (BoxB.below (BoxB.lit rfl) b1)
      clear b1
      have x0 := BX1.out 0 _ rfl
      have x1 := BX1.out 1 _ rfl
      have x2 := BX1.out 2 _ rfl
      have x3 := BX1.out 3 _ rfl
      have x4 := BX1.out 4 _ rfl
      have x5 := BX1.out 5 _ rfl
      have x6 := BX1.out 6 _ rfl
      have x7 := BX1.out 7 _ rfl
      rw [h3]
      go_wp2_with fail
      go_ret
      exact ⟨ret_bool (by simp [shapeB]), H1.out⟩
    | true =>
      go_enter Try.func98, Try.ntmps98
      go_wp2_with fail
      refine (impl_TermOk t tk tn ts tA tm tc _ (HT.out.belowA (by repeat' first|exact .refl _ _|exact Nat.le_refl _|refine .alloc ?_ ?_ _|refine .setCell ?_ ?_ _|refine .drew ?_|refine below_drewN ?_ _|assumption|(simp;done)|(simp;omega)))).mono ?_
      rintro e w1 ⟨rfl, b1⟩
      have H1 : Hid (Below w.heap.size w w1) := Lib.hid (Below.trans (by repeat' first|exact .refl _ _|exact Nat.le_refl _|refine .alloc ?_ ?_ _|refine .setCell ?_ ?_ _|refine .drew ?_|refine below_drewN ?_ _|assumption|(simp;done)|(simp;omega)) (b1.mono (by simp)))
      have BX1 : Hid (BoxB w1 w.heap.size [.int .i64 2, .string s, .int .i64 tk, .int .i64 tn, .string ts, .slice tA tm tc, .slice bA body.length bc, .slice eA els.length ec]) := Lib.hid (BoxB.below (BoxB.lit rfl) b1)
      clear b1
      have x0 := BX1.out 0 _ rfl
      have x1 := BX1.out 1 _ rfl
      have x2 := BX1.out 2 _ rfl
      have x3 := BX1.out 3 _ rfl
      have x4 := BX1.out 4 _ rfl
      have x5 := BX1.out 5 _ rfl
      have x6 := BX1.out 6 _ rfl
      have x7 := BX1.out 7 _ rfl
      rw [h3]
      go_wp2_with fail
      go_ret
      exact ⟨ret_bool (by simp [shapeB]), H1.out⟩
set_option maxHeartbeats 800000 in
theorem impl_shape_3 (s : ByteArray) (t : Tm) (tk tn : Int) (ts : ByteArray) (tA : Option Addr) (tm tc : Nat) (bA : Option Addr) (bc : Nat) (eA : Option Addr) (ec : Nat) (body els : List St) (w : World) (ht : TmIs AnyB w [.int .i64 tk, .int .i64 tn, .string ts, .slice tA tm tc] t) (hb : body.length ≤ 1048576) (he : els.length ≤ 1048576) :
    Calls Try.prog 98 #[.agg #[.int .i64 3, .string s, .int .i64 tk, .int .i64 tn, .string ts, .slice tA tm tc, .slice bA body.length bc, .slice eA els.length ec]] w fun e w' => e = .returned (.bool (shapeB 3 (isNameL s.data.toList) (s.toList.isEmpty) (okT 6 t) (sameB t zeroTm) ((body.length : Int) == 0) ((els.length : Int) == 0))) ∧ Below w.heap.size w w' := by
  have HT := Lib.hid ht
  clear ht
  cases h2 : s.toList.isEmpty with
  | false =>
    go_enter Try.func98, Try.ntmps98
    go_wp2_with fail
    go_ret
    exact ⟨ret_bool (by simp [shapeB]), (by repeat' first|exact .refl _ _|exact Nat.le_refl _|refine .alloc ?_ ?_ _|refine .setCell ?_ ?_ _|refine .drew ?_|refine below_drewN ?_ _|assumption|(simp;done)|(simp;omega))⟩
  | true =>
    cases h3 : okT 6 t with
    | false =>
      go_enter Try.func98, Try.ntmps98
      go_wp2_with fail
      refine (impl_TermOk t tk tn ts tA tm tc _ (HT.out.belowA (by repeat' first|exact .refl _ _|exact Nat.le_refl _|refine .alloc ?_ ?_ _|refine .setCell ?_ ?_ _|refine .drew ?_|refine below_drewN ?_ _|assumption|(simp;done)|(simp;omega)))).mono ?_
      rintro e w1 ⟨rfl, b1⟩
      have H1 : Hid (Below w.heap.size w w1) := Lib.hid (Below.trans (by repeat' first|exact .refl _ _|exact Nat.le_refl _|refine .alloc ?_ ?_ _|refine .setCell ?_ ?_ _|refine .drew ?_|refine below_drewN ?_ _|assumption|(simp;done)|(simp;omega)) (b1.mono (by simp)))
      have BX1 : Hid (BoxB w1 w.heap.size [.int .i64 3, .string s, .int .i64 tk, .int .i64 tn, .string ts, .slice tA tm tc, .slice bA body.length bc, .slice eA els.length ec]) := Lib.hid (BoxB.below (BoxB.lit rfl) b1)
      clear b1
      have x0 := BX1.out 0 _ rfl
      have x1 := BX1.out 1 _ rfl
      have x2 := BX1.out 2 _ rfl
      have x3 := BX1.out 3 _ rfl
      have x4 := BX1.out 4 _ rfl
      have x5 := BX1.out 5 _ rfl
      have x6 := BX1.out 6 _ rfl
      have x7 := BX1.out 7 _ rfl
      rw [h3]
      go_wp2_with fail
      go_ret
      exact ⟨ret_bool (by simp [shapeB]), H1.out⟩
    | true =>
      cases h6 : ((els.length : Int) == 0) with
      | false =>
        go_enter Try.func98, Try.ntmps98
        go_wp2_with fail
        refine (impl_TermOk t tk tn ts tA tm tc _ (HT.out.belowA (by repeat' first|exact .refl _ _|exact Nat.le_refl _|refine .alloc ?_ ?_ _|refine .setCell ?_ ?_ _|refine .drew ?_|refine below_drewN ?_ _|assumption|(simp;done)|(simp;omega)))).mono ?_
        rintro e w1 ⟨rfl, b1⟩
        have H1 : Hid (Below w.heap.size w w1) := Lib.hid (Below.trans (by repeat' first|exact .refl _ _|exact Nat.le_refl _|refine .alloc ?_ ?_ _|refine .setCell ?_ ?_ _|refine .drew ?_|refine below_drewN ?_ _|assumption|(simp;done)|(simp;omega)) (b1.mono (by simp)))
        have BX1 : Hid (BoxB w1 w.heap.size [.int .i64 3, .string s, .int .i64 tk, .int .i64 tn, .string ts, .slice tA tm tc, .slice bA body.length bc, .slice eA els.length ec]) := Lib.hid (BoxB.below (BoxB.lit rfl) b1)
        clear b1
        have x0 := BX1.out 0 _ rfl
        have x1 := BX1.out 1 _ rfl
        have x2 := BX1.out 2 _ rfl
        have x3 := BX1.out 3 _ rfl
        have x4 := BX1.out 4 _ rfl
        have x5 := BX1.out 5 _ rfl
        have x6 := BX1.out 6 _ rfl
        have x7 := BX1.out 7 _ rfl
        rw [h3]
        go_wp2_with fail
        go_ret
        exact ⟨ret_bool (by simp [shapeB]), H1.out⟩
      | true =>
        go_enter Try.func98, Try.ntmps98
        go_wp2_with fail
        refine (impl_TermOk t tk tn ts tA tm tc _ (HT.out.belowA (by repeat' first|exact .refl _ _|exact Nat.le_refl _|refine .alloc ?_ ?_ _|refine .setCell ?_ ?_ _|refine .drew ?_|refine below_drewN ?_ _|assumption|(simp;done)|(simp;omega)))).mono ?_
        rintro e w1 ⟨rfl, b1⟩
        have H1 : Hid (Below w.heap.size w w1) := Lib.hid (Below.trans (by repeat' first|exact .refl _ _|exact Nat.le_refl _|refine .alloc ?_ ?_ _|refine .setCell ?_ ?_ _|refine .drew ?_|refine below_drewN ?_ _|assumption|(simp;done)|(simp;omega)) (b1.mono (by simp)))
        have BX1 : Hid (BoxB w1 w.heap.size [.int .i64 3, .string s, .int .i64 tk, .int .i64 tn, .string ts, .slice tA tm tc, .slice bA body.length bc, .slice eA els.length ec]) := Lib.hid (BoxB.below (BoxB.lit rfl) b1)
        clear b1
        have x0 := BX1.out 0 _ rfl
        have x1 := BX1.out 1 _ rfl
        have x2 := BX1.out 2 _ rfl
        have x3 := BX1.out 3 _ rfl
        have x4 := BX1.out 4 _ rfl
        have x5 := BX1.out 5 _ rfl
        have x6 := BX1.out 6 _ rfl
        have x7 := BX1.out 7 _ rfl
        rw [h3]
        go_wp2_with fail
        go_ret
        exact ⟨ret_bool (by simp [shapeB]), H1.out⟩
set_option maxHeartbeats 800000 in
theorem impl_shape_4 (s : ByteArray) (t : Tm) (tk tn : Int) (ts : ByteArray) (tA : Option Addr) (tm tc : Nat) (bA : Option Addr) (bc : Nat) (eA : Option Addr) (ec : Nat) (body els : List St) (w : World) (ht : TmIs AnyB w [.int .i64 tk, .int .i64 tn, .string ts, .slice tA tm tc] t) (hb : body.length ≤ 1048576) (he : els.length ≤ 1048576) :
    Calls Try.prog 98 #[.agg #[.int .i64 4, .string s, .int .i64 tk, .int .i64 tn, .string ts, .slice tA tm tc, .slice bA body.length bc, .slice eA els.length ec]] w fun e w' => e = .returned (.bool (shapeB 4 (isNameL s.data.toList) (s.toList.isEmpty) (okT 6 t) (sameB t zeroTm) ((body.length : Int) == 0) ((els.length : Int) == 0))) ∧ Below w.heap.size w w' := by
  have HT := Lib.hid ht
  clear ht
  cases h1 : isNameL s.data.toList with
  | false =>
    go_enter Try.func98, Try.ntmps98
    go_wp2_with fail
    refine (impl_IsName s _).mono ?_
    rintro e wn ⟨rfl, rfl⟩
    rw [h1]
    go_wp2_with fail
    go_ret
    exact ⟨ret_bool (by simp [shapeB]), (by repeat' first|exact .refl _ _|exact Nat.le_refl _|refine .alloc ?_ ?_ _|refine .setCell ?_ ?_ _|refine .drew ?_|refine below_drewN ?_ _|assumption|(simp;done)|(simp;omega))⟩
  | true =>
    cases h4 : sameB t zeroTm with
    | false =>
      go_enter Try.func98, Try.ntmps98
      go_wp2_with fail
      refine (impl_IsName s _).mono ?_
      rintro e wn ⟨rfl, rfl⟩
      rw [h1]
      go_wp2_with fail
      refine (impl_isZeroTerm t tk tn ts tA tm tc _ (HT.out.belowA (by repeat' first|exact .refl _ _|exact Nat.le_refl _|refine .alloc ?_ ?_ _|refine .setCell ?_ ?_ _|refine .drew ?_|refine below_drewN ?_ _|assumption|(simp;done)|(simp;omega)))).mono ?_
      rintro e w1 ⟨rfl, b1⟩
      have H1 : Hid (Below w.heap.size w w1) := Lib.hid (Below.trans (by repeat' first|exact .refl _ _|exact Nat.le_refl _|refine .alloc ?_ ?_ _|refine .setCell ?_ ?_ _|refine .drew ?_|refine below_drewN ?_ _|assumption|(simp;done)|(simp;omega)) (b1.mono (by simp)))
      have BX1 : Hid (BoxB w1 w.heap.size [.int .i64 4, .string s, .int .i64 tk, .int .i64 tn, .string ts, .slice tA tm tc, .slice bA body.length bc, .slice eA els.length ec]) := Lib.hid (BoxB.below (BoxB.lit rfl) b1)
      clear b1
      have x0 := BX1.out 0 _ rfl
      have x1 := BX1.out 1 _ rfl
      have x2 := BX1.out 2 _ rfl
      have x3 := BX1.out 3 _ rfl
      have x4 := BX1.out 4 _ rfl
      have x5 := BX1.out 5 _ rfl
      have x6 := BX1.out 6 _ rfl
      have x7 := BX1.out 7 _ rfl
      rw [h4]
      go_wp2_with fail
      go_ret
      exact ⟨ret_bool (by simp [shapeB]), H1.out⟩
    | true =>
      cases h5 : ((body.length : Int) == 0) with
      | false =>
        go_enter Try.func98, Try.ntmps98
        go_wp2_with fail
        refine (impl_IsName s _).mono ?_
        rintro e wn ⟨rfl, rfl⟩
        rw [h1]
        go_wp2_with fail
        refine (impl_isZeroTerm t tk tn ts tA tm tc _ (HT.out.belowA (by repeat' first|exact .refl _ _|exact Nat.le_refl _|refine .alloc ?_ ?_ _|refine .setCell ?_ ?_ _|refine .drew ?_|refine below_drewN ?_ _|assumption|(simp;done)|(simp;omega)))).mono ?_
        rintro e w1 ⟨rfl, b1⟩
        have H1 : Hid (Below w.heap.size w w1) := Lib.hid (Below.trans (by repeat' first|exact .refl _ _|exact Nat.le_refl _|refine .alloc ?_ ?_ _|refine .setCell ?_ ?_ _|refine .drew ?_|refine below_drewN ?_ _|assumption|(simp;done)|(simp;omega)) (b1.mono (by simp)))
        have BX1 : Hid (BoxB w1 w.heap.size [.int .i64 4, .string s, .int .i64 tk, .int .i64 tn, .string ts, .slice tA tm tc, .slice bA body.length bc, .slice eA els.length ec]) := Lib.hid (BoxB.below (BoxB.lit rfl) b1)
        clear b1
        have x0 := BX1.out 0 _ rfl
        have x1 := BX1.out 1 _ rfl
        have x2 := BX1.out 2 _ rfl
        have x3 := BX1.out 3 _ rfl
        have x4 := BX1.out 4 _ rfl
        have x5 := BX1.out 5 _ rfl
        have x6 := BX1.out 6 _ rfl
        have x7 := BX1.out 7 _ rfl
        rw [h4]
        go_wp2_with fail
        go_ret
        exact ⟨ret_bool (by simp [shapeB]), H1.out⟩
      | true =>
        cases h6 : ((els.length : Int) == 0) with
        | false =>
          go_enter Try.func98, Try.ntmps98
          go_wp2_with fail
          refine (impl_IsName s _).mono ?_
          rintro e wn ⟨rfl, rfl⟩
          rw [h1]
          go_wp2_with fail
          refine (impl_isZeroTerm t tk tn ts tA tm tc _ (HT.out.belowA (by repeat' first|exact .refl _ _|exact Nat.le_refl _|refine .alloc ?_ ?_ _|refine .setCell ?_ ?_ _|refine .drew ?_|refine below_drewN ?_ _|assumption|(simp;done)|(simp;omega)))).mono ?_
          rintro e w1 ⟨rfl, b1⟩
          have H1 : Hid (Below w.heap.size w w1) := Lib.hid (Below.trans (by repeat' first|exact .refl _ _|exact Nat.le_refl _|refine .alloc ?_ ?_ _|refine .setCell ?_ ?_ _|refine .drew ?_|refine below_drewN ?_ _|assumption|(simp;done)|(simp;omega)) (b1.mono (by simp)))
          have BX1 : Hid (BoxB w1 w.heap.size [.int .i64 4, .string s, .int .i64 tk, .int .i64 tn, .string ts, .slice tA tm tc, .slice bA body.length bc, .slice eA els.length ec]) := Lib.hid (BoxB.below (BoxB.lit rfl) b1)
          clear b1
          have x0 := BX1.out 0 _ rfl
          have x1 := BX1.out 1 _ rfl
          have x2 := BX1.out 2 _ rfl
          have x3 := BX1.out 3 _ rfl
          have x4 := BX1.out 4 _ rfl
          have x5 := BX1.out 5 _ rfl
          have x6 := BX1.out 6 _ rfl
          have x7 := BX1.out 7 _ rfl
          rw [h4]
          go_wp2_with fail
          go_ret
          exact ⟨ret_bool (by simp [shapeB]), H1.out⟩
        | true =>
          go_enter Try.func98, Try.ntmps98
          go_wp2_with fail
          refine (impl_IsName s _).mono ?_
          rintro e wn ⟨rfl, rfl⟩
          rw [h1]
          go_wp2_with fail
          refine (impl_isZeroTerm t tk tn ts tA tm tc _ (HT.out.belowA (by repeat' first|exact .refl _ _|exact Nat.le_refl _|refine .alloc ?_ ?_ _|refine .setCell ?_ ?_ _|refine .drew ?_|refine below_drewN ?_ _|assumption|(simp;done)|(simp;omega)))).mono ?_
          rintro e w1 ⟨rfl, b1⟩
          have H1 : Hid (Below w.heap.size w w1) := Lib.hid (Below.trans (by repeat' first|exact .refl _ _|exact Nat.le_refl _|refine .alloc ?_ ?_ _|refine .setCell ?_ ?_ _|refine .drew ?_|refine below_drewN ?_ _|assumption|(simp;done)|(simp;omega)) (b1.mono (by simp)))
          have BX1 : Hid (BoxB w1 w.heap.size [.int .i64 4, .string s, .int .i64 tk, .int .i64 tn, .string ts, .slice tA tm tc, .slice bA body.length bc, .slice eA els.length ec]) := Lib.hid (BoxB.below (BoxB.lit rfl) b1)
          clear b1
          have x0 := BX1.out 0 _ rfl
          have x1 := BX1.out 1 _ rfl
          have x2 := BX1.out 2 _ rfl
          have x3 := BX1.out 3 _ rfl
          have x4 := BX1.out 4 _ rfl
          have x5 := BX1.out 5 _ rfl
          have x6 := BX1.out 6 _ rfl
          have x7 := BX1.out 7 _ rfl
          rw [h4]
          go_wp2_with fail
          go_ret
          exact ⟨ret_bool (by simp [shapeB]), H1.out⟩
set_option maxHeartbeats 800000 in
theorem impl_shape_5 (s : ByteArray) (t : Tm) (tk tn : Int) (ts : ByteArray) (tA : Option Addr) (tm tc : Nat) (bA : Option Addr) (bc : Nat) (eA : Option Addr) (ec : Nat) (body els : List St) (w : World) (ht : TmIs AnyB w [.int .i64 tk, .int .i64 tn, .string ts, .slice tA tm tc] t) (hb : body.length ≤ 1048576) (he : els.length ≤ 1048576) :
    Calls Try.prog 98 #[.agg #[.int .i64 5, .string s, .int .i64 tk, .int .i64 tn, .string ts, .slice tA tm tc, .slice bA body.length bc, .slice eA els.length ec]] w fun e w' => e = .returned (.bool (shapeB 5 (isNameL s.data.toList) (s.toList.isEmpty) (okT 6 t) (sameB t zeroTm) ((body.length : Int) == 0) ((els.length : Int) == 0))) ∧ Below w.heap.size w w' := by
  have HT := Lib.hid ht
  clear ht
  cases h1 : isNameL s.data.toList with
  | false =>
    go_enter Try.func98, Try.ntmps98
    go_wp2_with fail
    refine (impl_IsName s _).mono ?_
    rintro e wn ⟨rfl, rfl⟩
    rw [h1]
    go_wp2_with fail
    go_ret
    exact ⟨ret_bool (by simp [shapeB]), (by repeat' first|exact .refl _ _|exact Nat.le_refl _|refine .alloc ?_ ?_ _|refine .setCell ?_ ?_ _|refine .drew ?_|refine below_drewN ?_ _|assumption|(simp;done)|(simp;omega))⟩
  | true =>
    cases h4 : sameB t zeroTm with
    | false =>
      go_enter Try.func98, Try.ntmps98
      go_wp2_with fail
      refine (impl_IsName s _).mono ?_
      rintro e wn ⟨rfl, rfl⟩
      rw [h1]
      go_wp2_with fail
      refine (impl_isZeroTerm t tk tn ts tA tm tc _ (HT.out.belowA (by repeat' first|exact .refl _ _|exact Nat.le_refl _|refine .alloc ?_ ?_ _|refine .setCell ?_ ?_ _|refine .drew ?_|refine below_drewN ?_ _|assumption|(simp;done)|(simp;omega)))).mono ?_
      rintro e w1 ⟨rfl, b1⟩
      have H1 : Hid (Below w.heap.size w w1) := Lib.hid (Below.trans (by repeat' first|exact .refl _ _|exact Nat.le_refl _|refine .alloc ?_ ?_ _|refine .setCell ?_ ?_ _|refine .drew ?_|refine below_drewN ?_ _|assumption|(simp;done)|(simp;omega)) (b1.mono (by simp)))
      have BX1 : Hid (BoxB w1 w.heap.size [.int .i64 5, .string s, .int .i64 tk, .int .i64 tn, .string ts, .slice tA tm tc, .slice bA body.length bc, .slice eA els.length ec]) := Lib.hid (BoxB.below (BoxB.lit rfl) b1)
      clear b1
      have x0 := BX1.out 0 _ rfl
      have x1 := BX1.out 1 _ rfl
      have x2 := BX1.out 2 _ rfl
      have x3 := BX1.out 3 _ rfl
      have x4 := BX1.out 4 _ rfl
      have x5 := BX1.out 5 _ rfl
      have x6 := BX1.out 6 _ rfl
      have x7 := BX1.out 7 _ rfl
      rw [h4]
      go_wp2_with fail
      go_ret
      exact ⟨ret_bool (by simp [shapeB]), H1.out⟩
    | true =>
      cases h5 : ((body.length : Int) == 0) with
      | false =>
        go_enter Try.func98, Try.ntmps98
        go_wp2_with fail
        refine (impl_IsName s _).mono ?_
        rintro e wn ⟨rfl, rfl⟩
        rw [h1]
        go_wp2_with fail
        refine (impl_isZeroTerm t tk tn ts tA tm tc _ (HT.out.belowA (by repeat' first|exact .refl _ _|exact Nat.le_refl _|refine .alloc ?_ ?_ _|refine .setCell ?_ ?_ _|refine .drew ?_|refine below_drewN ?_ _|assumption|(simp;done)|(simp;omega)))).mono ?_
        rintro e w1 ⟨rfl, b1⟩
        have H1 : Hid (Below w.heap.size w w1) := Lib.hid (Below.trans (by repeat' first|exact .refl _ _|exact Nat.le_refl _|refine .alloc ?_ ?_ _|refine .setCell ?_ ?_ _|refine .drew ?_|refine below_drewN ?_ _|assumption|(simp;done)|(simp;omega)) (b1.mono (by simp)))
        have BX1 : Hid (BoxB w1 w.heap.size [.int .i64 5, .string s, .int .i64 tk, .int .i64 tn, .string ts, .slice tA tm tc, .slice bA body.length bc, .slice eA els.length ec]) := Lib.hid (BoxB.below (BoxB.lit rfl) b1)
        clear b1
        have x0 := BX1.out 0 _ rfl
        have x1 := BX1.out 1 _ rfl
        have x2 := BX1.out 2 _ rfl
        have x3 := BX1.out 3 _ rfl
        have x4 := BX1.out 4 _ rfl
        have x5 := BX1.out 5 _ rfl
        have x6 := BX1.out 6 _ rfl
        have x7 := BX1.out 7 _ rfl
        rw [h4]
        go_wp2_with fail
        go_ret
        exact ⟨ret_bool (by simp [shapeB]), H1.out⟩
      | true =>
        cases h6 : ((els.length : Int) == 0) with
        | false =>
          go_enter Try.func98, Try.ntmps98
          go_wp2_with fail
          refine (impl_IsName s _).mono ?_
          rintro e wn ⟨rfl, rfl⟩
          rw [h1]
          go_wp2_with fail
          refine (impl_isZeroTerm t tk tn ts tA tm tc _ (HT.out.belowA (by repeat' first|exact .refl _ _|exact Nat.le_refl _|refine .alloc ?_ ?_ _|refine .setCell ?_ ?_ _|refine .drew ?_|refine below_drewN ?_ _|assumption|(simp;done)|(simp;omega)))).mono ?_
          rintro e w1 ⟨rfl, b1⟩
          have H1 : Hid (Below w.heap.size w w1) := Lib.hid (Below.trans (by repeat' first|exact .refl _ _|exact Nat.le_refl _|refine .alloc ?_ ?_ _|refine .setCell ?_ ?_ _|refine .drew ?_|refine below_drewN ?_ _|assumption|(simp;done)|(simp;omega)) (b1.mono (by simp)))
          have BX1 : Hid (BoxB w1 w.heap.size [.int .i64 5, .string s, .int .i64 tk, .int .i64 tn, .string ts, .slice tA tm tc, .slice bA body.length bc, .slice eA els.length ec]) := Lib.hid (BoxB.below (BoxB.lit rfl) b1)
          clear b1
          have x0 := BX1.out 0 _ rfl
          have x1 := BX1.out 1 _ rfl
          have x2 := BX1.out 2 _ rfl
          have x3 := BX1.out 3 _ rfl
          have x4 := BX1.out 4 _ rfl
          have x5 := BX1.out 5 _ rfl
          have x6 := BX1.out 6 _ rfl
          have x7 := BX1.out 7 _ rfl
          rw [h4]
          go_wp2_with fail
          go_ret
          exact ⟨ret_bool (by simp [shapeB]), H1.out⟩
        | true =>
          go_enter Try.func98, Try.ntmps98
          go_wp2_with fail
          refine (impl_IsName s _).mono ?_
          rintro e wn ⟨rfl, rfl⟩
          rw [h1]
          go_wp2_with fail
          refine (impl_isZeroTerm t tk tn ts tA tm tc _ (HT.out.belowA (by repeat' first|exact .refl _ _|exact Nat.le_refl _|refine .alloc ?_ ?_ _|refine .setCell ?_ ?_ _|refine .drew ?_|refine below_drewN ?_ _|assumption|(simp;done)|(simp;omega)))).mono ?_
          rintro e w1 ⟨rfl, b1⟩
          have H1 : Hid (Below w.heap.size w w1) := Lib.hid (Below.trans (by repeat' first|exact .refl _ _|exact Nat.le_refl _|refine .alloc ?_ ?_ _|refine .setCell ?_ ?_ _|refine .drew ?_|refine below_drewN ?_ _|assumption|(simp;done)|(simp;omega)) (b1.mono (by simp)))
          have BX1 : Hid (BoxB w1 w.heap.size [.int .i64 5, .string s, .int .i64 tk, .int .i64 tn, .string ts, .slice tA tm tc, .slice bA body.length bc, .slice eA els.length ec]) := Lib.hid (BoxB.below (BoxB.lit rfl) b1)
          clear b1
          have x0 := BX1.out 0 _ rfl
          have x1 := BX1.out 1 _ rfl
          have x2 := BX1.out 2 _ rfl
          have x3 := BX1.out 3 _ rfl
          have x4 := BX1.out 4 _ rfl
          have x5 := BX1.out 5 _ rfl
          have x6 := BX1.out 6 _ rfl
          have x7 := BX1.out 7 _ rfl
          rw [h4]
          go_wp2_with fail
          go_ret
          exact ⟨ret_bool (by simp [shapeB]), H1.out⟩
set_option maxHeartbeats 800000 in
theorem impl_shape_6 (s : ByteArray) (t : Tm) (tk tn : Int) (ts : ByteArray) (tA : Option Addr) (tm tc : Nat) (bA : Option Addr) (bc : Nat) (eA : Option Addr) (ec : Nat) (body els : List St) (w : World) (ht : TmIs AnyB w [.int .i64 tk, .int .i64 tn, .string ts, .slice tA tm tc] t) (hb : body.length ≤ 1048576) (he : els.length ≤ 1048576) :
    Calls Try.prog 98 #[.agg #[.int .i64 6, .string s, .int .i64 tk, .int .i64 tn, .string ts, .slice tA tm tc, .slice bA body.length bc, .slice eA els.length ec]] w fun e w' => e = .returned (.bool (shapeB 6 (isNameL s.data.toList) (s.toList.isEmpty) (okT 6 t) (sameB t zeroTm) ((body.length : Int) == 0) ((els.length : Int) == 0))) ∧ Below w.heap.size w w' := by
  have HT := Lib.hid ht
  clear ht
  cases h1 : isNameL s.data.toList with
  | false =>
    go_enter Try.func98, Try.ntmps98
    go_wp2_with fail
    refine (impl_IsName s _).mono ?_
    rintro e wn ⟨rfl, rfl⟩
    rw [h1]
    go_wp2_with fail
    go_ret
    exact ⟨ret_bool (by simp [shapeB]), (by repeat' first|exact .refl _ _|exact Nat.le_refl _|refine .alloc ?_ ?_ _|refine .setCell ?_ ?_ _|refine .drew ?_|refine below_drewN ?_ _|assumption|(simp;done)|(simp;omega))⟩
  | true =>
    cases h4 : sameB t zeroTm with
    | false =>
      go_enter Try.func98, Try.ntmps98
      go_wp2_with fail
      refine (impl_IsName s _).mono ?_
      rintro e wn ⟨rfl, rfl⟩
      rw [h1]
      go_wp2_with fail
      refine (impl_isZeroTerm t tk tn ts tA tm tc _ (HT.out.belowA (by repeat' first|exact .refl _ _|exact Nat.le_refl _|refine .alloc ?_ ?_ _|refine .setCell ?_ ?_ _|refine .drew ?_|refine below_drewN ?_ _|assumption|(simp;done)|(simp;omega)))).mono ?_
      rintro e w1 ⟨rfl, b1⟩
      have H1 : Hid (Below w.heap.size w w1) := Lib.hid (Below.trans (by repeat' first|exact .refl _ _|exact Nat.le_refl _|refine .alloc ?_ ?_ _|refine .setCell ?_ ?_ _|refine .drew ?_|refine below_drewN ?_ _|assumption|(simp;done)|(simp;omega)) (b1.mono (by simp)))
      have BX1 : Hid (BoxB w1 w.heap.size [.int .i64 6, .string s, .int .i64 tk, .int .i64 tn, .string ts, .slice tA tm tc, .slice bA body.length bc, .slice eA els.length ec]) := Lib.hid (BoxB.below (BoxB.lit rfl) b1)
      clear b1
      have x0 := BX1.out 0 _ rfl
      have x1 := BX1.out 1 _ rfl
      have x2 := BX1.out 2 _ rfl
      have x3 := BX1.out 3 _ rfl
      have x4 := BX1.out 4 _ rfl
      have x5 := BX1.out 5 _ rfl
      have x6 := BX1.out 6 _ rfl
      have x7 := BX1.out 7 _ rfl
      rw [h4]
      go_wp2_with fail
      go_ret
      exact ⟨ret_bool (by simp [shapeB]), H1.out⟩
    | true =>
      cases h5 : ((body.length : Int) == 0) with
      | false =>
        go_enter Try.func98, Try.ntmps98
        go_wp2_with fail
        refine (impl_IsName s _).mono ?_
        rintro e wn ⟨rfl, rfl⟩
        rw [h1]
        go_wp2_with fail
        refine (impl_isZeroTerm t tk tn ts tA tm tc _ (HT.out.belowA (by repeat' first|exact .refl _ _|exact Nat.le_refl _|refine .alloc ?_ ?_ _|refine .setCell ?_ ?_ _|refine .drew ?_|refine below_drewN ?_ _|assumption|(simp;done)|(simp;omega)))).mono ?_
        rintro e w1 ⟨rfl, b1⟩
        have H1 : Hid (Below w.heap.size w w1) := Lib.hid (Below.trans (by repeat' first|exact .refl _ _|exact Nat.le_refl _|refine .alloc ?_ ?_ _|refine .setCell ?_ ?_ _|refine .drew ?_|refine below_drewN ?_ _|assumption|(simp;done)|(simp;omega)) (b1.mono (by simp)))
        have BX1 : Hid (BoxB w1 w.heap.size [.int .i64 6, .string s, .int .i64 tk, .int .i64 tn, .string ts, .slice tA tm tc, .slice bA body.length bc, .slice eA els.length ec]) := Lib.hid (BoxB.below (BoxB.lit rfl) b1)
        clear b1
        have x0 := BX1.out 0 _ rfl
        have x1 := BX1.out 1 _ rfl
        have x2 := BX1.out 2 _ rfl
        have x3 := BX1.out 3 _ rfl
        have x4 := BX1.out 4 _ rfl
        have x5 := BX1.out 5 _ rfl
        have x6 := BX1.out 6 _ rfl
        have x7 := BX1.out 7 _ rfl
        rw [h4]
        go_wp2_with fail
        go_ret
        exact ⟨ret_bool (by simp [shapeB]), H1.out⟩
      | true =>
        cases h6 : ((els.length : Int) == 0) with
        | false =>
          go_enter Try.func98, Try.ntmps98
          go_wp2_with fail
          refine (impl_IsName s _).mono ?_
          rintro e wn ⟨rfl, rfl⟩
          rw [h1]
          go_wp2_with fail
          refine (impl_isZeroTerm t tk tn ts tA tm tc _ (HT.out.belowA (by repeat' first|exact .refl _ _|exact Nat.le_refl _|refine .alloc ?_ ?_ _|refine .setCell ?_ ?_ _|refine .drew ?_|refine below_drewN ?_ _|assumption|(simp;done)|(simp;omega)))).mono ?_
          rintro e w1 ⟨rfl, b1⟩
          have H1 : Hid (Below w.heap.size w w1) := Lib.hid (Below.trans (by repeat' first|exact .refl _ _|exact Nat.le_refl _|refine .alloc ?_ ?_ _|refine .setCell ?_ ?_ _|refine .drew ?_|refine below_drewN ?_ _|assumption|(simp;done)|(simp;omega)) (b1.mono (by simp)))
          have BX1 : Hid (BoxB w1 w.heap.size [.int .i64 6, .string s, .int .i64 tk, .int .i64 tn, .string ts, .slice tA tm tc, .slice bA body.length bc, .slice eA els.length ec]) := Lib.hid (BoxB.below (BoxB.lit rfl) b1)
          clear b1
          have x0 := BX1.out 0 _ rfl
          have x1 := BX1.out 1 _ rfl
          have x2 := BX1.out 2 _ rfl
          have x3 := BX1.out 3 _ rfl
          have x4 := BX1.out 4 _ rfl
          have x5 := BX1.out 5 _ rfl
          have x6 := BX1.out 6 _ rfl
          have x7 := BX1.out 7 _ rfl
          rw [h4]
          go_wp2_with fail
          go_ret
          exact ⟨ret_bool (by simp [shapeB]), H1.out⟩
        | true =>
          go_enter Try.func98, Try.ntmps98
          go_wp2_with fail
          refine (impl_IsName s _).mono ?_
          rintro e wn ⟨rfl, rfl⟩
          rw [h1]
          go_wp2_with fail
          refine (impl_isZeroTerm t tk tn ts tA tm tc _ (HT.out.belowA (by repeat' first|exact .refl _ _|exact Nat.le_refl _|refine .alloc ?_ ?_ _|refine .setCell ?_ ?_ _|refine .drew ?_|refine below_drewN ?_ _|assumption|(simp;done)|(simp;omega)))).mono ?_
          rintro e w1 ⟨rfl, b1⟩
          have H1 : Hid (Below w.heap.size w w1) := Lib.hid (Below.trans (by repeat' first|exact .refl _ _|exact Nat.le_refl _|refine .alloc ?_ ?_ _|refine .setCell ?_ ?_ _|refine .drew ?_|refine below_drewN ?_ _|assumption|(simp;done)|(simp;omega)) (b1.mono (by simp)))
          have BX1 : Hid (BoxB w1 w.heap.size [.int .i64 6, .string s, .int .i64 tk, .int .i64 tn, .string ts, .slice tA tm tc, .slice bA body.length bc, .slice eA els.length ec]) := Lib.hid (BoxB.below (BoxB.lit rfl) b1)
          clear b1
          have x0 := BX1.out 0 _ rfl
          have x1 := BX1.out 1 _ rfl
          have x2 := BX1.out 2 _ rfl
          have x3 := BX1.out 3 _ rfl
          have x4 := BX1.out 4 _ rfl
          have x5 := BX1.out 5 _ rfl
          have x6 := BX1.out 6 _ rfl
          have x7 := BX1.out 7 _ rfl
          rw [h4]
          go_wp2_with fail
          go_ret
          exact ⟨ret_bool (by simp [shapeB]), H1.out⟩
set_option maxHeartbeats 800000 in
theorem impl_shape_7 (s : ByteArray) (t : Tm) (tk tn : Int) (ts : ByteArray) (tA : Option Addr) (tm tc : Nat) (bA : Option Addr) (bc : Nat) (eA : Option Addr) (ec : Nat) (body els : List St) (w : World) (ht : TmIs AnyB w [.int .i64 tk, .int .i64 tn, .string ts, .slice tA tm tc] t) (hb : body.length ≤ 1048576) (he : els.length ≤ 1048576) :
    Calls Try.prog 98 #[.agg #[.int .i64 7, .string s, .int .i64 tk, .int .i64 tn, .string ts, .slice tA tm tc, .slice bA body.length bc, .slice eA els.length ec]] w fun e w' => e = .returned (.bool (shapeB 7 (isNameL s.data.toList) (s.toList.isEmpty) (okT 6 t) (sameB t zeroTm) ((body.length : Int) == 0) ((els.length : Int) == 0))) ∧ Below w.heap.size w w' := by
  have HT := Lib.hid ht
  clear ht
  cases h1 : isNameL s.data.toList with
  | false =>
    go_enter Try.func98, Try.ntmps98
    go_wp2_with fail
    refine (impl_IsName s _).mono ?_
    rintro e wn ⟨rfl, rfl⟩
    rw [h1]
    go_wp2_with fail
    go_ret
    exact ⟨ret_bool (by simp [shapeB]), (by repeat' first|exact .refl _ _|exact Nat.le_refl _|refine .alloc ?_ ?_ _|refine .setCell ?_ ?_ _|refine .drew ?_|refine below_drewN ?_ _|assumption|(simp;done)|(simp;omega))⟩
  | true =>
    cases h4 : sameB t zeroTm with
    | false =>
      go_enter Try.func98, Try.ntmps98
      go_wp2_with fail
      refine (impl_IsName s _).mono ?_
      rintro e wn ⟨rfl, rfl⟩
      rw [h1]
      go_wp2_with fail
      refine (impl_isZeroTerm t tk tn ts tA tm tc _ (HT.out.belowA (by repeat' first|exact .refl _ _|exact Nat.le_refl _|refine .alloc ?_ ?_ _|refine .setCell ?_ ?_ _|refine .drew ?_|refine below_drewN ?_ _|assumption|(simp;done)|(simp;omega)))).mono ?_
      rintro e w1 ⟨rfl, b1⟩
      have H1 : Hid (Below w.heap.size w w1) := Lib.hid (Below.trans (by repeat' first|exact .refl _ _|exact Nat.le_refl _|refine .alloc ?_ ?_ _|refine .setCell ?_ ?_ _|refine .drew ?_|refine below_drewN ?_ _|assumption|(simp;done)|(simp;omega)) (b1.mono (by simp)))
      have BX1 : Hid (BoxB w1 w.heap.size [.int .i64 7, .string s, .int .i64 tk, .int .i64 tn, .string ts, .slice tA tm tc, .slice bA body.length bc, .slice eA els.length ec]) := Lib.hid (BoxB.below (BoxB.lit rfl) b1)
      clear b1
      have x0 := BX1.out 0 _ rfl
      have x1 := BX1.out 1 _ rfl
      have x2 := BX1.out 2 _ rfl
      have x3 := BX1.out 3 _ rfl
      have x4 := BX1.out 4 _ rfl
      have x5 := BX1.out 5 _ rfl
      have x6 := BX1.out 6 _ rfl
      have x7 := BX1.out 7 _ rfl
      rw [h4]
      go_wp2_with fail
      go_ret
      exact ⟨ret_bool (by simp [shapeB]), H1.out⟩
    | true =>
      cases h5 : ((body.length : Int) == 0) with
      | false =>
        go_enter Try.func98, Try.ntmps98
        go_wp2_with fail
        refine (impl_IsName s _).mono ?_
        rintro e wn ⟨rfl, rfl⟩
        rw [h1]
        go_wp2_with fail
        refine (impl_isZeroTerm t tk tn ts tA tm tc _ (HT.out.belowA (by repeat' first|exact .refl _ _|exact Nat.le_refl _|refine .alloc ?_ ?_ _|refine .setCell ?_ ?_ _|refine .drew ?_|refine below_drewN ?_ _|assumption|(simp;done)|(simp;omega)))).mono ?_
        rintro e w1 ⟨rfl, b1⟩
        have H1 : Hid (Below w.heap.size w w1) := Lib.hid (Below.trans (by repeat' first|exact .refl _ _|exact Nat.le_refl _|refine .alloc ?_ ?_ _|refine .setCell ?_ ?_ _|refine .drew ?_|refine below_drewN ?_ _|assumption|(simp;done)|(simp;omega)) (b1.mono (by simp)))
        have BX1 : Hid (BoxB w1 w.heap.size [.int .i64 7, .string s, .int .i64 tk, .int .i64 tn, .string ts, .slice tA tm tc, .slice bA body.length bc, .slice eA els.length ec]) := Lib.hid (BoxB.below (BoxB.lit rfl) b1)
        clear b1
        have x0 := BX1.out 0 _ rfl
        have x1 := BX1.out 1 _ rfl
        have x2 := BX1.out 2 _ rfl
        have x3 := BX1.out 3 _ rfl
        have x4 := BX1.out 4 _ rfl
        have x5 := BX1.out 5 _ rfl
        have x6 := BX1.out 6 _ rfl
        have x7 := BX1.out 7 _ rfl
        rw [h4]
        go_wp2_with fail
        go_ret
        exact ⟨ret_bool (by simp [shapeB]), H1.out⟩
      | true =>
        cases h6 : ((els.length : Int) == 0) with
        | false =>
          go_enter Try.func98, Try.ntmps98
          go_wp2_with fail
          refine (impl_IsName s _).mono ?_
          rintro e wn ⟨rfl, rfl⟩
          rw [h1]
          go_wp2_with fail
          refine (impl_isZeroTerm t tk tn ts tA tm tc _ (HT.out.belowA (by repeat' first|exact .refl _ _|exact Nat.le_refl _|refine .alloc ?_ ?_ _|refine .setCell ?_ ?_ _|refine .drew ?_|refine below_drewN ?_ _|assumption|(simp;done)|(simp;omega)))).mono ?_
          rintro e w1 ⟨rfl, b1⟩
          have H1 : Hid (Below w.heap.size w w1) := Lib.hid (Below.trans (by repeat' first|exact .refl _ _|exact Nat.le_refl _|refine .alloc ?_ ?_ _|refine .setCell ?_ ?_ _|refine .drew ?_|refine below_drewN ?_ _|assumption|(simp;done)|(simp;omega)) (b1.mono (by simp)))
          have BX1 : Hid (BoxB w1 w.heap.size [.int .i64 7, .string s, .int .i64 tk, .int .i64 tn, .string ts, .slice tA tm tc, .slice bA body.length bc, .slice eA els.length ec]) := Lib.hid (BoxB.below (BoxB.lit rfl) b1)
          clear b1
          have x0 := BX1.out 0 _ rfl
          have x1 := BX1.out 1 _ rfl
          have x2 := BX1.out 2 _ rfl
          have x3 := BX1.out 3 _ rfl
          have x4 := BX1.out 4 _ rfl
          have x5 := BX1.out 5 _ rfl
          have x6 := BX1.out 6 _ rfl
          have x7 := BX1.out 7 _ rfl
          rw [h4]
          go_wp2_with fail
          go_ret
          exact ⟨ret_bool (by simp [shapeB]), H1.out⟩
        | true =>
          go_enter Try.func98, Try.ntmps98
          go_wp2_with fail
          refine (impl_IsName s _).mono ?_
          rintro e wn ⟨rfl, rfl⟩
          rw [h1]
          go_wp2_with fail
          refine (impl_isZeroTerm t tk tn ts tA tm tc _ (HT.out.belowA (by repeat' first|exact .refl _ _|exact Nat.le_refl _|refine .alloc ?_ ?_ _|refine .setCell ?_ ?_ _|refine .drew ?_|refine below_drewN ?_ _|assumption|(simp;done)|(simp;omega)))).mono ?_
          rintro e w1 ⟨rfl, b1⟩
          have H1 : Hid (Below w.heap.size w w1) := Lib.hid (Below.trans (by repeat' first|exact .refl _ _|exact Nat.le_refl _|refine .alloc ?_ ?_ _|refine .setCell ?_ ?_ _|refine .drew ?_|refine below_drewN ?_ _|assumption|(simp;done)|(simp;omega)) (b1.mono (by simp)))
          have BX1 : Hid (BoxB w1 w.heap.size [.int .i64 7, .string s, .int .i64 tk, .int .i64 tn, .string ts, .slice tA tm tc, .slice bA body.length bc, .slice eA els.length ec]) := Lib.hid (BoxB.below (BoxB.lit rfl) b1)
          clear b1
          have x0 := BX1.out 0 _ rfl
          have x1 := BX1.out 1 _ rfl
          have x2 := BX1.out 2 _ rfl
          have x3 := BX1.out 3 _ rfl
          have x4 := BX1.out 4 _ rfl
          have x5 := BX1.out 5 _ rfl
          have x6 := BX1.out 6 _ rfl
          have x7 := BX1.out 7 _ rfl
          rw [h4]
          go_wp2_with fail
          go_ret
          exact ⟨ret_bool (by simp [shapeB]), H1.out⟩
set_option maxHeartbeats 800000 in
theorem impl_shape_8 (s : ByteArray) (t : Tm) (tk tn : Int) (ts : ByteArray) (tA : Option Addr) (tm tc : Nat) (bA : Option Addr) (bc : Nat) (eA : Option Addr) (ec : Nat) (body els : List St) (w : World) (ht : TmIs AnyB w [.int .i64 tk, .int .i64 tn, .string ts, .slice tA tm tc] t) (hb : body.length ≤ 1048576) (he : els.length ≤ 1048576) :
    Calls Try.prog 98 #[.agg #[.int .i64 8, .string s, .int .i64 tk, .int .i64 tn, .string ts, .slice tA tm tc, .slice bA body.length bc, .slice eA els.length ec]] w fun e w' => e = .returned (.bool (shapeB 8 (isNameL s.data.toList) (s.toList.isEmpty) (okT 6 t) (sameB t zeroTm) ((body.length : Int) == 0) ((els.length : Int) == 0))) ∧ Below w.heap.size w w' := by
  have HT := Lib.hid ht
  clear ht
  cases h2 : s.toList.isEmpty with
  | false =>
    go_enter Try.func98, Try.ntmps98
    go_wp2_with fail
    go_ret
    exact ⟨ret_bool (by simp [shapeB]), (by repeat' first|exact .refl _ _|exact Nat.le_refl _|refine .alloc ?_ ?_ _|refine .setCell ?_ ?_ _|refine .drew ?_|refine below_drewN ?_ _|assumption|(simp;done)|(simp;omega))⟩
  | true =>
    cases h4 : sameB t zeroTm with
    | false =>
      go_enter Try.func98, Try.ntmps98
      go_wp2_with fail
      refine (impl_isZeroTerm t tk tn ts tA tm tc _ (HT.out.belowA (by repeat' first|exact .refl _ _|exact Nat.le_refl _|refine .alloc ?_ ?_ _|refine .setCell ?_ ?_ _|refine .drew ?_|refine below_drewN ?_ _|assumption|(simp;done)|(simp;omega)))).mono ?_
      rintro e w1 ⟨rfl, b1⟩
      have H1 : Hid (Below w.heap.size w w1) := Lib.hid (Below.trans (by repeat' first|exact .refl _ _|exact Nat.le_refl _|refine .alloc ?_ ?_ _|refine .setCell ?_ ?_ _|refine .drew ?_|refine below_drewN ?_ _|assumption|(simp;done)|(simp;omega)) (b1.mono (by simp)))
      have BX1 : Hid (BoxB w1 w.heap.size [.int .i64 8, .string s, .int .i64 tk, .int .i64 tn, .string ts, .slice tA tm tc, .slice bA body.length bc, .slice eA els.length ec]) := Lib.hid (BoxB.below (BoxB.lit rfl) b1)
      clear b1
      have x0 := BX1.out 0 _ rfl
      have x1 := BX1.out 1 _ rfl
      have x2 := BX1.out 2 _ rfl
      have x3 := BX1.out 3 _ rfl
      have x4 := BX1.out 4 _ rfl
      have x5 := BX1.out 5 _ rfl
      have x6 := BX1.out 6 _ rfl
      have x7 := BX1.out 7 _ rfl
      rw [h4]
      go_wp2_with fail
      go_ret
      exact ⟨ret_bool (by simp [shapeB]), H1.out⟩
    | true =>
      cases h5 : ((body.length : Int) == 0) with
      | false =>
        go_enter Try.func98, Try.ntmps98
        go_wp2_with fail
        refine (impl_isZeroTerm t tk tn ts tA tm tc _ (HT.out.belowA (by repeat' first|exact .refl _ _|exact Nat.le_refl _|refine .alloc ?_ ?_ _|refine .setCell ?_ ?_ _|refine .drew ?_|refine below_drewN ?_ _|assumption|(simp;done)|(simp;omega)))).mono ?_
        rintro e w1 ⟨rfl, b1⟩
        have H1 : Hid (Below w.heap.size w w1) := Lib.hid (Below.trans (by repeat' first|exact .refl _ _|exact Nat.le_refl _|refine .alloc ?_ ?_ _|refine .setCell ?_ ?_ _|refine .drew ?_|refine below_drewN ?_ _|assumption|(simp;done)|(simp;omega)) (b1.mono (by simp)))
        have BX1 : Hid (BoxB w1 w.heap.size [.int .i64 8, .string s, .int .i64 tk, .int .i64 tn, .string ts, .slice tA tm tc, .slice bA body.length bc, .slice eA els.length ec]) := Lib.hid (BoxB.below (BoxB.lit rfl) b1)
        clear b1
        have x0 := BX1.out 0 _ rfl
        have x1 := BX1.out 1 _ rfl
        have x2 := BX1.out 2 _ rfl
        have x3 := BX1.out 3 _ rfl
        have x4 := BX1.out 4 _ rfl
        have x5 := BX1.out 5 _ rfl
        have x6 := BX1.out 6 _ rfl
        have x7 := BX1.out 7 _ rfl
        rw [h4]
        go_wp2_with fail
        go_ret
        exact ⟨ret_bool (by simp [shapeB]), H1.out⟩
      | true =>
        cases h6 : ((els.length : Int) == 0) with
        | false =>
          go_enter Try.func98, Try.ntmps98
          go_wp2_with fail
          refine (impl_isZeroTerm t tk tn ts tA tm tc _ (HT.out.belowA (by repeat' first|exact .refl _ _|exact Nat.le_refl _|refine .alloc ?_ ?_ _|refine .setCell ?_ ?_ _|refine .drew ?_|refine below_drewN ?_ _|assumption|(simp;done)|(simp;omega)))).mono ?_
          rintro e w1 ⟨rfl, b1⟩
          have H1 : Hid (Below w.heap.size w w1) := Lib.hid (Below.trans (by repeat' first|exact .refl _ _|exact Nat.le_refl _|refine .alloc ?_ ?_ _|refine .setCell ?_ ?_ _|refine .drew ?_|refine below_drewN ?_ _|assumption|(simp;done)|(simp;omega)) (b1.mono (by simp)))
          have BX1 : Hid (BoxB w1 w.heap.size [.int .i64 8, .string s, .int .i64 tk, .int .i64 tn, .string ts, .slice tA tm tc, .slice bA body.length bc, .slice eA els.length ec]) := Lib.hid (BoxB.below (BoxB.lit rfl) b1)
          clear b1
          have x0 := BX1.out 0 _ rfl
          have x1 := BX1.out 1 _ rfl
          have x2 := BX1.out 2 _ rfl
          have x3 := BX1.out 3 _ rfl
          have x4 := BX1.out 4 _ rfl
          have x5 := BX1.out 5 _ rfl
          have x6 := BX1.out 6 _ rfl
          have x7 := BX1.out 7 _ rfl
          rw [h4]
          go_wp2_with fail
          go_ret
          exact ⟨ret_bool (by simp [shapeB]), H1.out⟩
        | true =>
          go_enter Try.func98, Try.ntmps98
          go_wp2_with fail
          refine (impl_isZeroTerm t tk tn ts tA tm tc _ (HT.out.belowA (by repeat' first|exact .refl _ _|exact Nat.le_refl _|refine .alloc ?_ ?_ _|refine .setCell ?_ ?_ _|refine .drew ?_|refine below_drewN ?_ _|assumption|(simp;done)|(simp;omega)))).mono ?_
          rintro e w1 ⟨rfl, b1⟩
          have H1 : Hid (Below w.heap.size w w1) := Lib.hid (Below.trans (by repeat' first|exact .refl _ _|exact Nat.le_refl _|refine .alloc ?_ ?_ _|refine .setCell ?_ ?_ _|refine .drew ?_|refine below_drewN ?_ _|assumption|(simp;done)|(simp;omega)) (b1.mono (by simp)))
          have BX1 : Hid (BoxB w1 w.heap.size [.int .i64 8, .string s, .int .i64 tk, .int .i64 tn, .string ts, .slice tA tm tc, .slice bA body.length bc, .slice eA els.length ec]) := Lib.hid (BoxB.below (BoxB.lit rfl) b1)
          clear b1
          have x0 := BX1.out 0 _ rfl
          have x1 := BX1.out 1 _ rfl
          have x2 := BX1.out 2 _ rfl
          have x3 := BX1.out 3 _ rfl
          have x4 := BX1.out 4 _ rfl
          have x5 := BX1.out 5 _ rfl
          have x6 := BX1.out 6 _ rfl
          have x7 := BX1.out 7 _ rfl
          rw [h4]
          go_wp2_with fail
          go_ret
          exact ⟨ret_bool (by simp [shapeB]), H1.out⟩
set_option maxHeartbeats 800000 in
theorem spec_shape_1 (s : ByteArray) (t : Tm) (tk tn : Int) (ts : ByteArray) (tA : Option Addr) (tm tc : Nat) (bA : Option Addr) (bc : Nat) (eA : Option Addr) (ec : Nat) (body els : List St) (w : World) (ht : TmIs AnyB w [.int .i64 tk, .int .i64 tn, .string ts, .slice tA tm tc] t) (hb : body.length ≤ 1048576) (he : els.length ≤ 1048576) :
    Calls Try.prog 113 #[.agg #[.int .i64 1, .string s, .int .i64 tk, .int .i64 tn, .string ts, .slice tA tm tc, .slice bA body.length bc, .slice eA els.length ec]] w fun e w' => e = .returned (.bool (shapeB 1 (isNameL s.data.toList) (s.toList.isEmpty) (okT 6 t) (sameB t zeroTm) ((body.length : Int) == 0) ((els.length : Int) == 0))) ∧ Below w.heap.size w w' := by
  have HT := Lib.hid ht
  clear ht
  cases h4 : sameB t zeroTm
  all_goals
    cases h1 : isNameL s.data.toList with
    | false =>
      go_enter Try.func113, Try.ntmps113
      go_wp2_with fail
      refine (spec_SameTerm t zeroTm tk tn ts tA tm tc 0 0 ByteArray.empty none 0 0 _ (HT.out.belowA (by repeat' first|exact .refl _ _|exact Nat.le_refl _|refine .alloc ?_ ?_ _|refine .setCell ?_ ?_ _|refine .drew ?_|refine below_drewN ?_ _|assumption|(simp;done)|(simp;omega))) kidT_zero).mono ?_
      rintro e w1 ⟨rfl, b1⟩
      have H1 : Hid (Below w.heap.size w w1) := Lib.hid (Below.trans (by repeat' first|exact .refl _ _|exact Nat.le_refl _|refine .alloc ?_ ?_ _|refine .setCell ?_ ?_ _|refine .drew ?_|refine below_drewN ?_ _|assumption|(simp;done)|(simp;omega)) (b1.mono (by simp)))
      have BX1 : Hid (BoxB w1 w.heap.size [.int .i64 1, .string s, .int .i64 tk, .int .i64 tn, .string ts, .slice tA tm tc, .slice bA body.length bc, .slice eA els.length ec]) := Lib.hid (BoxB.below (BoxB.lit rfl) b1)
      clear b1
      have x0 := BX1.out 0 _ rfl
      have x1 := BX1.out 1 _ rfl
      have x2 := BX1.out 2 _ rfl
      have x3 := BX1.out 3 _ rfl
      have x4 := BX1.out 4 _ rfl
      have x5 := BX1.out 5 _ rfl
      have x6 := BX1.out 6 _ rfl
      have x7 := BX1.out 7 _ rfl
      rw [h4]
      go_wp2_with fail
      refine (spec_IsName s _).mono ?_
      rintro e wn ⟨rfl, rfl⟩
      rw [h1]
      go_wp2_with fail
      go_ret
      exact ⟨ret_bool (by simp [shapeB]), H1.out⟩
    | true =>
      cases h3 : okT 6 t with
      | false =>
        go_enter Try.func113, Try.ntmps113
        go_wp2_with fail
        refine (spec_SameTerm t zeroTm tk tn ts tA tm tc 0 0 ByteArray.empty none 0 0 _ (HT.out.belowA (by repeat' first|exact .refl _ _|exact Nat.le_refl _|refine .alloc ?_ ?_ _|refine .setCell ?_ ?_ _|refine .drew ?_|refine below_drewN ?_ _|assumption|(simp;done)|(simp;omega))) kidT_zero).mono ?_
        rintro e w1 ⟨rfl, b1⟩
        have H1 : Hid (Below w.heap.size w w1) := Lib.hid (Below.trans (by repeat' first|exact .refl _ _|exact Nat.le_refl _|refine .alloc ?_ ?_ _|refine .setCell ?_ ?_ _|refine .drew ?_|refine below_drewN ?_ _|assumption|(simp;done)|(simp;omega)) (b1.mono (by simp)))
        have BX1 : Hid (BoxB w1 w.heap.size [.int .i64 1, .string s, .int .i64 tk, .int .i64 tn, .string ts, .slice tA tm tc, .slice bA body.length bc, .slice eA els.length ec]) := Lib.hid (BoxB.below (BoxB.lit rfl) b1)
        clear b1
        have x0 := BX1.out 0 _ rfl
        have x1 := BX1.out 1 _ rfl
        have x2 := BX1.out 2 _ rfl
        have x3 := BX1.out 3 _ rfl
        have x4 := BX1.out 4 _ rfl
        have x5 := BX1.out 5 _ rfl
        have x6 := BX1.out 6 _ rfl
        have x7 := BX1.out 7 _ rfl
        rw [h4]
        go_wp2_with fail
        refine (spec_IsName s _).mono ?_
        rintro e wn ⟨rfl, rfl⟩
        rw [h1]
        go_wp2_with fail
        refine (spec_TermOk t tk tn ts tA tm tc _ (HT.out.belowA H1.out)).mono ?_
        rintro e w2 ⟨rfl, b2⟩
        have H2 := Lib.hid (below_then H1.out b2)
        have BX2 := Lib.hid (BX1.out.below b2)
        clear b2
        clear x0 x1 x2 x3 x4 x5 x6 x7
        have x0 := BX2.out 0 _ rfl
        have x1 := BX2.out 1 _ rfl
        have x2 := BX2.out 2 _ rfl
        have x3 := BX2.out 3 _ rfl
        have x4 := BX2.out 4 _ rfl
        have x5 := BX2.out 5 _ rfl
        have x6 := BX2.out 6 _ rfl
        have x7 := BX2.out 7 _ rfl
        rw [h3]
        go_wp2_with fail
        go_ret
        exact ⟨ret_bool (by simp [shapeB]), H2.out⟩
      | true =>
        cases h5 : ((body.length : Int) == 0) with
        | false =>
          have h7 := sum_no (b := els.length) (Or.inl h5)
          go_enter Try.func113, Try.ntmps113
          go_wp2_with fail
          refine (spec_SameTerm t zeroTm tk tn ts tA tm tc 0 0 ByteArray.empty none 0 0 _ (HT.out.belowA (by repeat' first|exact .refl _ _|exact Nat.le_refl _|refine .alloc ?_ ?_ _|refine .setCell ?_ ?_ _|refine .drew ?_|refine below_drewN ?_ _|assumption|(simp;done)|(simp;omega))) kidT_zero).mono ?_
          rintro e w1 ⟨rfl, b1⟩
          have H1 : Hid (Below w.heap.size w w1) := Lib.hid (Below.trans (by repeat' first|exact .refl _ _|exact Nat.le_refl _|refine .alloc ?_ ?_ _|refine .setCell ?_ ?_ _|refine .drew ?_|refine below_drewN ?_ _|assumption|(simp;done)|(simp;omega)) (b1.mono (by simp)))
          have BX1 : Hid (BoxB w1 w.heap.size [.int .i64 1, .string s, .int .i64 tk, .int .i64 tn, .string ts, .slice tA tm tc, .slice bA body.length bc, .slice eA els.length ec]) := Lib.hid (BoxB.below (BoxB.lit rfl) b1)
          clear b1
          have x0 := BX1.out 0 _ rfl
          have x1 := BX1.out 1 _ rfl
          have x2 := BX1.out 2 _ rfl
          have x3 := BX1.out 3 _ rfl
          have x4 := BX1.out 4 _ rfl
          have x5 := BX1.out 5 _ rfl
          have x6 := BX1.out 6 _ rfl
          have x7 := BX1.out 7 _ rfl
          rw [h4]
          go_wp2_with fail
          refine (spec_IsName s _).mono ?_
          rintro e wn ⟨rfl, rfl⟩
          rw [h1]
          go_wp2_with fail
          refine (spec_TermOk t tk tn ts tA tm tc _ (HT.out.belowA H1.out)).mono ?_
          rintro e w2 ⟨rfl, b2⟩
          have H2 := Lib.hid (below_then H1.out b2)
          have BX2 := Lib.hid (BX1.out.below b2)
          clear b2
          clear x0 x1 x2 x3 x4 x5 x6 x7
          have x0 := BX2.out 0 _ rfl
          have x1 := BX2.out 1 _ rfl
          have x2 := BX2.out 2 _ rfl
          have x3 := BX2.out 3 _ rfl
          have x4 := BX2.out 4 _ rfl
          have x5 := BX2.out 5 _ rfl
          have x6 := BX2.out 6 _ rfl
          have x7 := BX2.out 7 _ rfl
          rw [h3]
          go_wp2_with fail
          go_ret
          exact ⟨ret_bool (by simp [shapeB]), H2.out⟩
        | true =>
          cases h6 : ((els.length : Int) == 0) with
          | false =>
            have h7 := sum_no (a := body.length) (Or.inr h6)
            go_enter Try.func113, Try.ntmps113
            go_wp2_with fail
            refine (spec_SameTerm t zeroTm tk tn ts tA tm tc 0 0 ByteArray.empty none 0 0 _ (HT.out.belowA (by repeat' first|exact .refl _ _|exact Nat.le_refl _|refine .alloc ?_ ?_ _|refine .setCell ?_ ?_ _|refine .drew ?_|refine below_drewN ?_ _|assumption|(simp;done)|(simp;omega))) kidT_zero).mono ?_
            rintro e w1 ⟨rfl, b1⟩
            have H1 : Hid (Below w.heap.size w w1) := Lib.hid (Below.trans (by repeat' first|exact .refl _ _|exact Nat.le_refl _|refine .alloc ?_ ?_ _|refine .setCell ?_ ?_ _|refine .drew ?_|refine below_drewN ?_ _|assumption|(simp;done)|(simp;omega)) (b1.mono (by simp)))
            have BX1 : Hid (BoxB w1 w.heap.size [.int .i64 1, .string s, .int .i64 tk, .int .i64 tn, .string ts, .slice tA tm tc, .slice bA body.length bc, .slice eA els.length ec]) := Lib.hid (BoxB.below (BoxB.lit rfl) b1)
            clear b1
            have x0 := BX1.out 0 _ rfl
            have x1 := BX1.out 1 _ rfl
            have x2 := BX1.out 2 _ rfl
            have x3 := BX1.out 3 _ rfl
            have x4 := BX1.out 4 _ rfl
            have x5 := BX1.out 5 _ rfl
            have x6 := BX1.out 6 _ rfl
            have x7 := BX1.out 7 _ rfl
            rw [h4]
            go_wp2_with fail
            refine (spec_IsName s _).mono ?_
            rintro e wn ⟨rfl, rfl⟩
            rw [h1]
            go_wp2_with fail
            refine (spec_TermOk t tk tn ts tA tm tc _ (HT.out.belowA H1.out)).mono ?_
            rintro e w2 ⟨rfl, b2⟩
            have H2 := Lib.hid (below_then H1.out b2)
            have BX2 := Lib.hid (BX1.out.below b2)
            clear b2
            clear x0 x1 x2 x3 x4 x5 x6 x7
            have x0 := BX2.out 0 _ rfl
            have x1 := BX2.out 1 _ rfl
            have x2 := BX2.out 2 _ rfl
            have x3 := BX2.out 3 _ rfl
            have x4 := BX2.out 4 _ rfl
            have x5 := BX2.out 5 _ rfl
            have x6 := BX2.out 6 _ rfl
            have x7 := BX2.out 7 _ rfl
            rw [h3]
            go_wp2_with fail
            go_ret
            exact ⟨ret_bool (by simp [shapeB]), H2.out⟩
          | true =>
            have h7 := sum_yes h5 h6
            go_enter Try.func113, Try.ntmps113
            go_wp2_with fail
            refine (spec_SameTerm t zeroTm tk tn ts tA tm tc 0 0 ByteArray.empty none 0 0 _ (HT.out.belowA (by repeat' first|exact .refl _ _|exact Nat.le_refl _|refine .alloc ?_ ?_ _|refine .setCell ?_ ?_ _|refine .drew ?_|refine below_drewN ?_ _|assumption|(simp;done)|(simp;omega))) kidT_zero).mono ?_
            rintro e w1 ⟨rfl, b1⟩
            have H1 : Hid (Below w.heap.size w w1) := Lib.hid (Below.trans (by repeat' first|exact .refl _ _|exact Nat.le_refl _|refine .alloc ?_ ?_ _|refine .setCell ?_ ?_ _|refine .drew ?_|refine below_drewN ?_ _|assumption|(simp;done)|(simp;omega)) (b1.mono (by simp)))
            have BX1 : Hid (BoxB w1 w.heap.size [.int .i64 1, .string s, .int .i64 tk, .int .i64 tn, .string ts, .slice tA tm tc, .slice bA body.length bc, .slice eA els.length ec]) := Lib.hid (BoxB.below (BoxB.lit rfl) b1)
            clear b1
            have x0 := BX1.out 0 _ rfl
            have x1 := BX1.out 1 _ rfl
            have x2 := BX1.out 2 _ rfl
            have x3 := BX1.out 3 _ rfl
            have x4 := BX1.out 4 _ rfl
            have x5 := BX1.out 5 _ rfl
            have x6 := BX1.out 6 _ rfl
            have x7 := BX1.out 7 _ rfl
            rw [h4]
            go_wp2_with fail
            refine (spec_IsName s _).mono ?_
            rintro e wn ⟨rfl, rfl⟩
            rw [h1]
            go_wp2_with fail
            refine (spec_TermOk t tk tn ts tA tm tc _ (HT.out.belowA H1.out)).mono ?_
            rintro e w2 ⟨rfl, b2⟩
            have H2 := Lib.hid (below_then H1.out b2)
            have BX2 := Lib.hid (BX1.out.below b2)
            clear b2
            clear x0 x1 x2 x3 x4 x5 x6 x7
            have x0 := BX2.out 0 _ rfl
            have x1 := BX2.out 1 _ rfl
            have x2 := BX2.out 2 _ rfl
            have x3 := BX2.out 3 _ rfl
            have x4 := BX2.out 4 _ rfl
            have x5 := BX2.out 5 _ rfl
            have x6 := BX2.out 6 _ rfl
            have x7 := BX2.out 7 _ rfl
            rw [h3]
            go_wp2_with fail
            go_ret
            exact ⟨ret_bool (by simp [shapeB]), H2.out⟩
set_option maxHeartbeats 800000 in
theorem spec_shape_2 (s : ByteArray) (t : Tm) (tk tn : Int) (ts : ByteArray) (tA : Option Addr) (tm tc : Nat) (bA : Option Addr) (bc : Nat) (eA : Option Addr) (ec : Nat) (body els : List St) (w : World) (ht : TmIs AnyB w [.int .i64 tk, .int .i64 tn, .string ts, .slice tA tm tc] t) (hb : body.length ≤ 1048576) (he : els.length ≤ 1048576) :
    Calls Try.prog 113 #[.agg #[.int .i64 2, .string s, .int .i64 tk, .int .i64 tn, .string ts, .slice tA tm tc, .slice bA body.length bc, .slice eA els.length ec]] w fun e w' => e = .returned (.bool (shapeB 2 (isNameL s.data.toList) (s.toList.isEmpty) (okT 6 t) (sameB t zeroTm) ((body.length : Int) == 0) ((els.length : Int) == 0))) ∧ Below w.heap.size w w' := by
  have HT := Lib.hid ht
  clear ht
  cases h4 : sameB t zeroTm
  all_goals
    cases h2 : s.toList.isEmpty with
    | false =>
      go_enter Try.func113, Try.ntmps113
      go_wp2_with fail
      refine (spec_SameTerm t zeroTm tk tn ts tA tm tc 0 0 ByteArray.empty none 0 0 _ (HT.out.belowA (by repeat' first|exact .refl _ _|exact Nat.le_refl _|refine .alloc ?_ ?_ _|refine .setCell ?_ ?_ _|refine .drew ?_|refine below_drewN ?_ _|assumption|(simp;done)|(simp;omega))) kidT_zero).mono ?_
      rintro e w1 ⟨rfl, b1⟩
      have H1 : Hid (Below w.heap.size w w1) := Lib.hid (Below.trans (by repeat' first|exact .refl _ _|exact Nat.le_refl _|refine .alloc ?_ ?_ _|refine .setCell ?_ ?_ _|refine .drew ?_|refine below_drewN ?_ _|assumption|(simp;done)|(simp;omega)) (b1.mono (by simp)))
      have BX1 : Hid (BoxB w1 w.heap.size [.int .i64 2, .string s, .int .i64 tk, .int .i64 tn, .string ts, .slice tA tm tc, .slice bA body.length bc, .slice eA els.length ec]) := Lib.hid (BoxB.below (BoxB.lit rfl) b1)
      clear b1
      have x0 := BX1.out 0 _ rfl
      have x1 := BX1.out 1 _ rfl
      have x2 := BX1.out 2 _ rfl
      have x3 := BX1.out 3 _ rfl
      have x4 := BX1.out 4 _ rfl
      have x5 := BX1.out 5 _ rfl
      have x6 := BX1.out 6 _ rfl
      have x7 := BX1.out 7 _ rfl
      rw [h4]
      go_wp2_with fail
      go_ret
      exact ⟨ret_bool (by simp [shapeB]), H1.out⟩
    | true =>
      cases h3 : okT 6 t with
      | false =>
        go_enter Try.func113, Try.ntmps113
        go_wp2_with fail
        refine (spec_SameTerm t zeroTm tk tn ts tA tm tc 0 0 ByteArray.empty none 0 0 _ (HT.out.belowA (by repeat' first|exact .refl _ _|exact Nat.le_refl _|refine .alloc ?_ ?_ _|refine .setCell ?_ ?_ _|refine .drew ?_|refine below_drewN ?_ _|assumption|(simp;done)|(simp;omega))) kidT_zero).mono ?_
        rintro e w1 ⟨rfl, b1⟩
        have H1 : Hid (Below w.heap.size w w1) := Lib.hid (Below.trans (by repeat' first|exact .refl _ _|exact Nat.le_refl _|refine .alloc ?_ ?_ _|refine .setCell ?_ ?_ _|refine .drew ?_|refine below_drewN ?_ _|assumption|(simp;done)|(simp;omega)) (b1.mono (by simp)))
        have BX1 : Hid (BoxB w1 w.heap.size [.int .i64 2, .string s, .int .i64 tk, .int .i64 tn, .string ts, .slice tA tm tc, .slice bA body.length bc, .slice eA els.length ec]) := Lib.hid (BoxB.below (BoxB.lit rfl) b1)
        clear b1
        have x0 := BX1.out 0 _ rfl
        have x1 := BX1.out 1 _ rfl
        have x2 := BX1.out 2 _ rfl
        have x3 := BX1.out 3 _ rfl
        have x4 := BX1.out 4 _ rfl
        have x5 := BX1.out 5 _ rfl
        have x6 := BX1.out 6 _ rfl
        have x7 := BX1.out 7 _ rfl
        rw [h4]
        go_wp2_with fail
        refine (spec_TermOk t tk tn ts tA tm tc _ (HT.out.belowA H1.out)).mono ?_
        rintro e w2 ⟨rfl, b2⟩
        have H2 := Lib.hid (below_then H1.out b2)
        have BX2 := Lib.hid (BX1.out.below b2)
        clear b2
        clear x0 x1 x2 x3 x4 x5 x6 x7
        have x0 := BX2.out 0 _ rfl
        have x1 := BX2.out 1 _ rfl
        have x2 := BX2.out 2 _ rfl
        have x3 := BX2.out 3 _ rfl
        have x4 := BX2.out 4 _ rfl
        have x5 := BX2.out 5 _ rfl
        have x6 := BX2.out 6 _ rfl
        have x7 := BX2.out 7 _ rfl
        rw [h3]
        go_wp2_with fail
        go_ret
        exact ⟨ret_bool (by simp [shapeB]), H2.out⟩
      | true =>
        go_enter Try.func113, Try.ntmps113
        go_wp2_with fail
        refine (spec_SameTerm t zeroTm tk tn ts tA tm tc 0 0 ByteArray.empty none 0 0 _ (HT.out.belowA (by repeat' first|exact .refl _ _|exact Nat.le_refl _|refine .alloc ?_ ?_ _|refine .setCell ?_ ?_ _|refine .drew ?_|refine below_drewN ?_ _|assumption|(simp;done)|(simp;omega))) kidT_zero).mono ?_
        rintro e w1 ⟨rfl, b1⟩
        have H1 : Hid (Below w.heap.size w w1) := Lib.hid (Below.trans (by repeat' first|exact .refl _ _|exact Nat.le_refl _|refine .alloc ?_ ?_ _|refine .setCell ?_ ?_ _|refine .drew ?_|refine below_drewN ?_ _|assumption|(simp;done)|(simp;omega)) (b1.mono (by simp)))
        have BX1 : Hid (BoxB w1 w.heap.size [.int .i64 2, .string s, .int .i64 tk, .int .i64 tn, .string ts, .slice tA tm tc, .slice bA body.length bc, .slice eA els.length ec]) := Lib.hid (BoxB.below (BoxB.lit rfl) b1)
        clear b1
        have x0 := BX1.out 0 _ rfl
        have x1 := BX1.out 1 _ rfl
        have x2 := BX1.out 2 _ rfl
        have x3 := BX1.out 3 _ rfl
        have x4 := BX1.out 4 _ rfl
        have x5 := BX1.out 5 _ rfl
        have x6 := BX1.out 6 _ rfl
        have x7 := BX1.out 7 _ rfl
        rw [h4]
        go_wp2_with fail
        refine (spec_TermOk t tk tn ts tA tm tc _ (HT.out.belowA H1.out)).mono ?_
        rintro e w2 ⟨rfl, b2⟩
        have H2 := Lib.hid (below_then H1.out b2)
        have BX2 := Lib.hid (BX1.out.below b2)
        clear b2
        clear x0 x1 x2 x3 x4 x5 x6 x7
        have x0 := BX2.out 0 _ rfl
        have x1 := BX2.out 1 _ rfl
        have x2 := BX2.out 2 _ rfl
        have x3 := BX2.out 3 _ rfl
        have x4 := BX2.out 4 _ rfl
        have x5 := BX2.out 5 _ rfl
        have x6 := BX2.out 6 _ rfl
        have x7 := BX2.out 7 _ rfl
        rw [h3]
        go_wp2_with fail
        go_ret
        exact ⟨ret_bool (by simp [shapeB]), H2.out⟩
set_option maxHeartbeats 800000 in
theorem spec_shape_3 (s : ByteArray) (t : Tm) (tk tn : Int) (ts : ByteArray) (tA : Option Addr) (tm tc : Nat) (bA : Option Addr) (bc : Nat) (eA : Option Addr) (ec : Nat) (body els : List St) (w : World) (ht : TmIs AnyB w [.int .i64 tk, .int .i64 tn, .string ts, .slice tA tm tc] t) (hb : body.length ≤ 1048576) (he : els.length ≤ 1048576) :
    Calls Try.prog 113 #[.agg #[.int .i64 3, .string s, .int .i64 tk, .int .i64 tn, .string ts, .slice tA tm tc, .slice bA body.length bc, .slice eA els.length ec]] w fun e w' => e = .returned (.bool (shapeB 3 (isNameL s.data.toList) (s.toList.isEmpty) (okT 6 t) (sameB t zeroTm) ((body.length : Int) == 0) ((els.length : Int) == 0))) ∧ Below w.heap.size w w' := by
  have HT := Lib.hid ht
  clear ht
  cases h4 : sameB t zeroTm
  all_goals
    cases h2 : s.toList.isEmpty with
    | false =>
      go_enter Try.func113, Try.ntmps113
      go_wp2_with fail
      refine (spec_SameTerm t zeroTm tk tn ts tA tm tc 0 0 ByteArray.empty none 0 0 _ (HT.out.belowA (by repeat' first|exact .refl _ _|exact Nat.le_refl _|refine .alloc ?_ ?_ _|refine .setCell ?_ ?_ _|refine .drew ?_|refine below_drewN ?_ _|assumption|(simp;done)|(simp;omega))) kidT_zero).mono ?_
      rintro e w1 ⟨rfl, b1⟩
      have H1 : Hid (Below w.heap.size w w1) := Lib.hid (Below.trans (by repeat' first|exact .refl _ _|exact Nat.le_refl _|refine .alloc ?_ ?_ _|refine .setCell ?_ ?_ _|refine .drew ?_|refine below_drewN ?_ _|assumption|(simp;done)|(simp;omega)) (b1.mono (by simp)))
      have BX1 : Hid (BoxB w1 w.heap.size [.int .i64 3, .string s, .int .i64 tk, .int .i64 tn, .string ts, .slice tA tm tc, .slice bA body.length bc, .slice eA els.length ec]) := Lib.hid (BoxB.below (BoxB.lit rfl) b1)
      clear b1
      have x0 := BX1.out 0 _ rfl
      have x1 := BX1.out 1 _ rfl
      have x2 := BX1.out 2 _ rfl
      have x3 := BX1.out 3 _ rfl
      have x4 := BX1.out 4 _ rfl
      have x5 := BX1.out 5 _ rfl
      have x6 := BX1.out 6 _ rfl
      have x7 := BX1.out 7 _ rfl
      rw [h4]
      go_wp2_with fail
      go_ret
      exact ⟨ret_bool (by simp [shapeB]), H1.out⟩
    | true =>
      cases h3 : okT 6 t with
      | false =>
        go_enter Try.func113, Try.ntmps113
        go_wp2_with fail
        refine (spec_SameTerm t zeroTm tk tn ts tA tm tc 0 0 ByteArray.empty none 0 0 _ (HT.out.belowA (by repeat' first|exact .refl _ _|exact Nat.le_refl _|refine .alloc ?_ ?_ _|refine .setCell ?_ ?_ _|refine .drew ?_|refine below_drewN ?_ _|assumption|(simp;done)|(simp;omega))) kidT_zero).mono ?_
        rintro e w1 ⟨rfl, b1⟩
        have H1 : Hid (Below w.heap.size w w1) := Lib.hid (Below.trans (by repeat' first|exact .refl _ _|exact Nat.le_refl _|refine .alloc ?_ ?_ _|refine .setCell ?_ ?_ _|refine .drew ?_|refine below_drewN ?_ _|assumption|(simp;done)|(simp;omega)) (b1.mono (by simp)))
        have BX1 : Hid (BoxB w1 w.heap.size [.int .i64 3, .string s, .int .i64 tk, .int .i64 tn, .string ts, .slice tA tm tc, .slice bA body.length bc, .slice eA els.length ec]) := Lib.hid (BoxB.below (BoxB.lit rfl) b1)
        clear b1
        have x0 := BX1.out 0 _ rfl
        have x1 := BX1.out 1 _ rfl
        have x2 := BX1.out 2 _ rfl
        have x3 := BX1.out 3 _ rfl
        have x4 := BX1.out 4 _ rfl
        have x5 := BX1.out 5 _ rfl
        have x6 := BX1.out 6 _ rfl
        have x7 := BX1.out 7 _ rfl
        rw [h4]
        go_wp2_with fail
        refine (spec_TermOk t tk tn ts tA tm tc _ (HT.out.belowA H1.out)).mono ?_
        rintro e w2 ⟨rfl, b2⟩
        have H2 := Lib.hid (below_then H1.out b2)
        have BX2 := Lib.hid (BX1.out.below b2)
        clear b2
        clear x0 x1 x2 x3 x4 x5 x6 x7
        have x0 := BX2.out 0 _ rfl
        have x1 := BX2.out 1 _ rfl
        have x2 := BX2.out 2 _ rfl
        have x3 := BX2.out 3 _ rfl
        have x4 := BX2.out 4 _ rfl
        have x5 := BX2.out 5 _ rfl
        have x6 := BX2.out 6 _ rfl
        have x7 := BX2.out 7 _ rfl
        rw [h3]
        go_wp2_with fail
        go_ret
        exact ⟨ret_bool (by simp [shapeB]), H2.out⟩
      | true =>
        cases h6 : ((els.length : Int) == 0) with
        | false =>
          go_enter Try.func113, Try.ntmps113
          go_wp2_with fail
          refine (spec_SameTerm t zeroTm tk tn ts tA tm tc 0 0 ByteArray.empty none 0 0 _ (HT.out.belowA (by repeat' first|exact .refl _ _|exact Nat.le_refl _|refine .alloc ?_ ?_ _|refine .setCell ?_ ?_ _|refine .drew ?_|refine below_drewN ?_ _|assumption|(simp;done)|(simp;omega))) kidT_zero).mono ?_
          rintro e w1 ⟨rfl, b1⟩
          have H1 : Hid (Below w.heap.size w w1) := Lib.hid (Below.trans (by repeat' first|exact .refl _ _|exact Nat.le_refl _|refine .alloc ?_ ?_ _|refine .setCell ?_ ?_ _|refine .drew ?_|refine below_drewN ?_ _|assumption|(simp;done)|(simp;omega)) (b1.mono (by simp)))
          have BX1 : Hid (BoxB w1 w.heap.size [.int .i64 3, .string s, .int .i64 tk, .int .i64 tn, .string ts, .slice tA tm tc, .slice bA body.length bc, .slice eA els.length ec]) := Lib.hid (BoxB.below (BoxB.lit rfl) b1)
          clear b1
          have x0 := BX1.out 0 _ rfl
          have x1 := BX1.out 1 _ rfl
          have x2 := BX1.out 2 _ rfl
          have x3 := BX1.out 3 _ rfl
          have x4 := BX1.out 4 _ rfl
          have x5 := BX1.out 5 _ rfl
          have x6 := BX1.out 6 _ rfl
          have x7 := BX1.out 7 _ rfl
          rw [h4]
          go_wp2_with fail
          refine (spec_TermOk t tk tn ts tA tm tc _ (HT.out.belowA H1.out)).mono ?_
          rintro e w2 ⟨rfl, b2⟩
          have H2 := Lib.hid (below_then H1.out b2)
          have BX2 := Lib.hid (BX1.out.below b2)
          clear b2
          clear x0 x1 x2 x3 x4 x5 x6 x7
          have x0 := BX2.out 0 _ rfl
          have x1 := BX2.out 1 _ rfl
          have x2 := BX2.out 2 _ rfl
          have x3 := BX2.out 3 _ rfl
          have x4 := BX2.out 4 _ rfl
          have x5 := BX2.out 5 _ rfl
          have x6 := BX2.out 6 _ rfl
          have x7 := BX2.out 7 _ rfl
          rw [h3]
          go_wp2_with fail
          go_ret
          exact ⟨ret_bool (by simp [shapeB]), H2.out⟩
        | true =>
          go_enter Try.func113, Try.ntmps113
          go_wp2_with fail
          refine (spec_SameTerm t zeroTm tk tn ts tA tm tc 0 0 ByteArray.empty none 0 0 _ (HT.out.belowA (by repeat' first|exact .refl _ _|exact Nat.le_refl _|refine .alloc ?_ ?_ _|refine .setCell ?_ ?_ _|refine .drew ?_|refine below_drewN ?_ _|assumption|(simp;done)|(simp;omega))) kidT_zero).mono ?_
          rintro e w1 ⟨rfl, b1⟩
          have H1 : Hid (Below w.heap.size w w1) := Lib.hid (Below.trans (by repeat' first|exact .refl _ _|exact Nat.le_refl _|refine .alloc ?_ ?_ _|refine .setCell ?_ ?_ _|refine .drew ?_|refine below_drewN ?_ _|assumption|(simp;done)|(simp;omega)) (b1.mono (by simp)))
          have BX1 : Hid (BoxB w1 w.heap.size [.int .i64 3, .string s, .int .i64 tk, .int .i64 tn, .string ts, .slice tA tm tc, .slice bA body.length bc, .slice eA els.length ec]) := Lib.hid (BoxB.below (BoxB.lit rfl) b1)
          clear b1
          have x0 := BX1.out 0 _ rfl
          have x1 := BX1.out 1 _ rfl
          have x2 := BX1.out 2 _ rfl
          have x3 := BX1.out 3 _ rfl
          have x4 := BX1.out 4 _ rfl
          have x5 := BX1.out 5 _ rfl
          have x6 := BX1.out 6 _ rfl
          have x7 := BX1.out 7 _ rfl
          rw [h4]
          go_wp2_with fail
          refine (spec_TermOk t tk tn ts tA tm tc _ (HT.out.belowA H1.out)).mono ?_
          rintro e w2 ⟨rfl, b2⟩
          have H2 := Lib.hid (below_then H1.out b2)
          have BX2 := Lib.hid (BX1.out.below b2)
          clear b2
          clear x0 x1 x2 x3 x4 x5 x6 x7
          have x0 := BX2.out 0 _ rfl
          have x1 := BX2.out 1 _ rfl
          have x2 := BX2.out 2 _ rfl
          have x3 := BX2.out 3 _ rfl
          have x4 := BX2.out 4 _ rfl
          have x5 := BX2.out 5 _ rfl
          have x6 := BX2.out 6 _ rfl
          have x7 := BX2.out 7 _ rfl
          rw [h3]
          go_wp2_with fail
          go_ret
          exact ⟨ret_bool (by simp [shapeB]), H2.out⟩
set_option maxHeartbeats 800000 in
theorem spec_shape_4 (s : ByteArray) (t : Tm) (tk tn : Int) (ts : ByteArray) (tA : Option Addr) (tm tc : Nat) (bA : Option Addr) (bc : Nat) (eA : Option Addr) (ec : Nat) (body els : List St) (w : World) (ht : TmIs AnyB w [.int .i64 tk, .int .i64 tn, .string ts, .slice tA tm tc] t) (hb : body.length ≤ 1048576) (he : els.length ≤ 1048576) :
    Calls Try.prog 113 #[.agg #[.int .i64 4, .string s, .int .i64 tk, .int .i64 tn, .string ts, .slice tA tm tc, .slice bA body.length bc, .slice eA els.length ec]] w fun e w' => e = .returned (.bool (shapeB 4 (isNameL s.data.toList) (s.toList.isEmpty) (okT 6 t) (sameB t zeroTm) ((body.length : Int) == 0) ((els.length : Int) == 0))) ∧ Below w.heap.size w w' := by
  have HT := Lib.hid ht
  clear ht
  cases h4 : sameB t zeroTm with
  | false =>
    cases h1 : isNameL s.data.toList
    all_goals
      go_enter Try.func113, Try.ntmps113
      go_wp2_with fail
      refine (spec_SameTerm t zeroTm tk tn ts tA tm tc 0 0 ByteArray.empty none 0 0 _ (HT.out.belowA (by repeat' first|exact .refl _ _|exact Nat.le_refl _|refine .alloc ?_ ?_ _|refine .setCell ?_ ?_ _|refine .drew ?_|refine below_drewN ?_ _|assumption|(simp;done)|(simp;omega))) kidT_zero).mono ?_
      rintro e w1 ⟨rfl, b1⟩
      have H1 : Hid (Below w.heap.size w w1) := Lib.hid (Below.trans (by repeat' first|exact .refl _ _|exact Nat.le_refl _|refine .alloc ?_ ?_ _|refine .setCell ?_ ?_ _|refine .drew ?_|refine below_drewN ?_ _|assumption|(simp;done)|(simp;omega)) (b1.mono (by simp)))
      have BX1 : Hid (BoxB w1 w.heap.size [.int .i64 4, .string s, .int .i64 tk, .int .i64 tn, .string ts, .slice tA tm tc, .slice bA body.length bc, .slice eA els.length ec]) := Lib.hid (BoxB.below (BoxB.lit rfl) b1)
      clear b1
      have x0 := BX1.out 0 _ rfl
      have x1 := BX1.out 1 _ rfl
      have x2 := BX1.out 2 _ rfl
      have x3 := BX1.out 3 _ rfl
      have x4 := BX1.out 4 _ rfl
      have x5 := BX1.out 5 _ rfl
      have x6 := BX1.out 6 _ rfl
      have x7 := BX1.out 7 _ rfl
      rw [h4]
      go_wp2_with fail
      refine (spec_IsName s _).mono ?_
      rintro e wn ⟨rfl, rfl⟩
      rw [h1]
      go_wp2_with fail
      go_ret
      exact ⟨ret_bool (by simp [shapeB]), H1.out⟩
  | true =>
    cases h1 : isNameL s.data.toList with
    | false =>
      go_enter Try.func113, Try.ntmps113
      go_wp2_with fail
      refine (spec_SameTerm t zeroTm tk tn ts tA tm tc 0 0 ByteArray.empty none 0 0 _ (HT.out.belowA (by repeat' first|exact .refl _ _|exact Nat.le_refl _|refine .alloc ?_ ?_ _|refine .setCell ?_ ?_ _|refine .drew ?_|refine below_drewN ?_ _|assumption|(simp;done)|(simp;omega))) kidT_zero).mono ?_
      rintro e w1 ⟨rfl, b1⟩
      have H1 : Hid (Below w.heap.size w w1) := Lib.hid (Below.trans (by repeat' first|exact .refl _ _|exact Nat.le_refl _|refine .alloc ?_ ?_ _|refine .setCell ?_ ?_ _|refine .drew ?_|refine below_drewN ?_ _|assumption|(simp;done)|(simp;omega)) (b1.mono (by simp)))
      have BX1 : Hid (BoxB w1 w.heap.size [.int .i64 4, .string s, .int .i64 tk, .int .i64 tn, .string ts, .slice tA tm tc, .slice bA body.length bc, .slice eA els.length ec]) := Lib.hid (BoxB.below (BoxB.lit rfl) b1)
      clear b1
      have x0 := BX1.out 0 _ rfl
      have x1 := BX1.out 1 _ rfl
      have x2 := BX1.out 2 _ rfl
      have x3 := BX1.out 3 _ rfl
      have x4 := BX1.out 4 _ rfl
      have x5 := BX1.out 5 _ rfl
      have x6 := BX1.out 6 _ rfl
      have x7 := BX1.out 7 _ rfl
      rw [h4]
      go_wp2_with fail
      refine (spec_IsName s _).mono ?_
      rintro e wn ⟨rfl, rfl⟩
      rw [h1]
      go_wp2_with fail
      go_ret
      exact ⟨ret_bool (by simp [shapeB]), H1.out⟩
    | true =>
      cases h5 : ((body.length : Int) == 0) with
      | false =>
        have h7 := sum_no (b := els.length) (Or.inl h5)
        go_enter Try.func113, Try.ntmps113
        go_wp2_with fail
        refine (spec_SameTerm t zeroTm tk tn ts tA tm tc 0 0 ByteArray.empty none 0 0 _ (HT.out.belowA (by repeat' first|exact .refl _ _|exact Nat.le_refl _|refine .alloc ?_ ?_ _|refine .setCell ?_ ?_ _|refine .drew ?_|refine below_drewN ?_ _|assumption|(simp;done)|(simp;omega))) kidT_zero).mono ?_
        rintro e w1 ⟨rfl, b1⟩
        have H1 : Hid (Below w.heap.size w w1) := Lib.hid (Below.trans (by repeat' first|exact .refl _ _|exact Nat.le_refl _|refine .alloc ?_ ?_ _|refine .setCell ?_ ?_ _|refine .drew ?_|refine below_drewN ?_ _|assumption|(simp;done)|(simp;omega)) (b1.mono (by simp)))
        have BX1 : Hid (BoxB w1 w.heap.size [.int .i64 4, .string s, .int .i64 tk, .int .i64 tn, .string ts, .slice tA tm tc, .slice bA body.length bc, .slice eA els.length ec]) := Lib.hid (BoxB.below (BoxB.lit rfl) b1)
        clear b1
        have x0 := BX1.out 0 _ rfl
        have x1 := BX1.out 1 _ rfl
        have x2 := BX1.out 2 _ rfl
        have x3 := BX1.out 3 _ rfl
        have x4 := BX1.out 4 _ rfl
        have x5 := BX1.out 5 _ rfl
        have x6 := BX1.out 6 _ rfl
        have x7 := BX1.out 7 _ rfl
        rw [h4]
        go_wp2_with fail
        refine (spec_IsName s _).mono ?_
        rintro e wn ⟨rfl, rfl⟩
        rw [h1]
        go_wp2_with fail
        go_ret
        exact ⟨ret_bool (by simp [shapeB]), H1.out⟩
      | true =>
        cases h6 : ((els.length : Int) == 0) with
        | false =>
          have h7 := sum_no (a := body.length) (Or.inr h6)
          go_enter Try.func113, Try.ntmps113
          go_wp2_with fail
          refine (spec_SameTerm t zeroTm tk tn ts tA tm tc 0 0 ByteArray.empty none 0 0 _ (HT.out.belowA (by repeat' first|exact .refl _ _|exact Nat.le_refl _|refine .alloc ?_ ?_ _|refine .setCell ?_ ?_ _|refine .drew ?_|refine below_drewN ?_ _|assumption|(simp;done)|(simp;omega))) kidT_zero).mono ?_
          rintro e w1 ⟨rfl, b1⟩
          have H1 : Hid (Below w.heap.size w w1) := Lib.hid (Below.trans (by repeat' first|exact .refl _ _|exact Nat.le_refl _|refine .alloc ?_ ?_ _|refine .setCell ?_ ?_ _|refine .drew ?_|refine below_drewN ?_ _|assumption|(simp;done)|(simp;omega)) (b1.mono (by simp)))
          have BX1 : Hid (BoxB w1 w.heap.size [.int .i64 4, .string s, .int .i64 tk, .int .i64 tn, .string ts, .slice tA tm tc, .slice bA body.length bc, .slice eA els.length ec]) := Lib.hid (BoxB.below (BoxB.lit rfl) b1)
          clear b1
          have x0 := BX1.out 0 _ rfl
          have x1 := BX1.out 1 _ rfl
          have x2 := BX1.out 2 _ rfl
          have x3 := BX1.out 3 _ rfl
          have x4 := BX1.out 4 _ rfl
          have x5 := BX1.out 5 _ rfl
          have x6 := BX1.out 6 _ rfl
          have x7 := BX1.out 7 _ rfl
          rw [h4]
          go_wp2_with fail
          refine (spec_IsName s _).mono ?_
          rintro e wn ⟨rfl, rfl⟩
          rw [h1]
          go_wp2_with fail
          go_ret
          exact ⟨ret_bool (by simp [shapeB]), H1.out⟩
        | true =>
          have h7 := sum_yes h5 h6
          go_enter Try.func113, Try.ntmps113
          go_wp2_with fail
          refine (spec_SameTerm t zeroTm tk tn ts tA tm tc 0 0 ByteArray.empty none 0 0 _ (HT.out.belowA (by repeat' first|exact .refl _ _|exact Nat.le_refl _|refine .alloc ?_ ?_ _|refine .setCell ?_ ?_ _|refine .drew ?_|refine below_drewN ?_ _|assumption|(simp;done)|(simp;omega))) kidT_zero).mono ?_
          rintro e w1 ⟨rfl, b1⟩
          have H1 : Hid (Below w.heap.size w w1) := Lib.hid (Below.trans (by repeat' first|exact .refl _ _|exact Nat.le_refl _|refine .alloc ?_ ?_ _|refine .setCell ?_ ?_ _|refine .drew ?_|refine below_drewN ?_ _|assumption|(simp;done)|(simp;omega)) (b1.mono (by simp)))
          have BX1 : Hid (BoxB w1 w.heap.size [.int .i64 4, .string s, .int .i64 tk, .int .i64 tn, .string ts, .slice tA tm tc, .slice bA body.length bc, .slice eA els.length ec]) := Lib.hid (BoxB.below (BoxB.lit rfl) b1)
          clear b1
          have x0 := BX1.out 0 _ rfl
          have x1 := BX1.out 1 _ rfl
          have x2 := BX1.out 2 _ rfl
          have x3 := BX1.out 3 _ rfl
          have x4 := BX1.out 4 _ rfl
          have x5 := BX1.out 5 _ rfl
          have x6 := BX1.out 6 _ rfl
          have x7 := BX1.out 7 _ rfl
          rw [h4]
          go_wp2_with fail
          refine (spec_IsName s _).mono ?_
          rintro e wn ⟨rfl, rfl⟩
          rw [h1]
          go_wp2_with fail
          go_ret
          exact ⟨ret_bool (by simp [shapeB]), H1.out⟩
set_option maxHeartbeats 800000 in
theorem spec_shape_5 (s : ByteArray) (t : Tm) (tk tn : Int) (ts : ByteArray) (tA : Option Addr) (tm tc : Nat) (bA : Option Addr) (bc : Nat) (eA : Option Addr) (ec : Nat) (body els : List St) (w : World) (ht : TmIs AnyB w [.int .i64 tk, .int .i64 tn, .string ts, .slice tA tm tc] t) (hb : body.length ≤ 1048576) (he : els.length ≤ 1048576) :
    Calls Try.prog 113 #[.agg #[.int .i64 5, .string s, .int .i64 tk, .int .i64 tn, .string ts, .slice tA tm tc, .slice bA body.length bc, .slice eA els.length ec]] w fun e w' => e = .returned (.bool (shapeB 5 (isNameL s.data.toList) (s.toList.isEmpty) (okT 6 t) (sameB t zeroTm) ((body.length : Int) == 0) ((els.length : Int) == 0))) ∧ Below w.heap.size w w' := by
  have HT := Lib.hid ht
  clear ht
  cases h4 : sameB t zeroTm with
  | false =>
    cases h1 : isNameL s.data.toList
    all_goals
      go_enter Try.func113, Try.ntmps113
      go_wp2_with fail
      refine (spec_SameTerm t zeroTm tk tn ts tA tm tc 0 0 ByteArray.empty none 0 0 _ (HT.out.belowA (by repeat' first|exact .refl _ _|exact Nat.le_refl _|refine .alloc ?_ ?_ _|refine .setCell ?_ ?_ _|refine .drew ?_|refine below_drewN ?_ _|assumption|(simp;done)|(simp;omega))) kidT_zero).mono ?_
      rintro e w1 ⟨rfl, b1⟩
      have H1 : Hid (Below w.heap.size w w1) := Lib.hid (Below.trans (by repeat' first|exact .refl _ _|exact Nat.le_refl _|refine .alloc ?_ ?_ _|refine .setCell ?_ ?_ _|refine .drew ?_|refine below_drewN ?_ _|assumption|(simp;done)|(simp;omega)) (b1.mono (by simp)))
      have BX1 : Hid (BoxB w1 w.heap.size [.int .i64 5, .string s, .int .i64 tk, .int .i64 tn, .string ts, .slice tA tm tc, .slice bA body.length bc, .slice eA els.length ec]) := Lib.hid (BoxB.below (BoxB.lit rfl) b1)
      clear b1
      have x0 := BX1.out 0 _ rfl
      have x1 := BX1.out 1 _ rfl
      have x2 := BX1.out 2 _ rfl
      have x3 := BX1.out 3 _ rfl
      have x4 := BX1.out 4 _ rfl
      have x5 := BX1.out 5 _ rfl
      have x6 := BX1.out 6 _ rfl
      have x7 := BX1.out 7 _ rfl
      rw [h4]
      go_wp2_with fail
      refine (spec_IsName s _).mono ?_
      rintro e wn ⟨rfl, rfl⟩
      rw [h1]
      go_wp2_with fail
      go_ret
      exact ⟨ret_bool (by simp [shapeB]), H1.out⟩
  | true =>
    cases h1 : isNameL s.data.toList with
    | false =>
      go_enter Try.func113, Try.ntmps113
      go_wp2_with fail
      refine (spec_SameTerm t zeroTm tk tn ts tA tm tc 0 0 ByteArray.empty none 0 0 _ (HT.out.belowA (by repeat' first|exact .refl _ _|exact Nat.le_refl _|refine .alloc ?_ ?_ _|refine .setCell ?_ ?_ _|refine .drew ?_|refine below_drewN ?_ _|assumption|(simp;done)|(simp;omega))) kidT_zero).mono ?_
      rintro e w1 ⟨rfl, b1⟩
      have H1 : Hid (Below w.heap.size w w1) := Lib.hid (Below.trans (by repeat' first|exact .refl _ _|exact Nat.le_refl _|refine .alloc ?_ ?_ _|refine .setCell ?_ ?_ _|refine .drew ?_|refine below_drewN ?_ _|assumption|(simp;done)|(simp;omega)) (b1.mono (by simp)))
      have BX1 : Hid (BoxB w1 w.heap.size [.int .i64 5, .string s, .int .i64 tk, .int .i64 tn, .string ts, .slice tA tm tc, .slice bA body.length bc, .slice eA els.length ec]) := Lib.hid (BoxB.below (BoxB.lit rfl) b1)
      clear b1
      have x0 := BX1.out 0 _ rfl
      have x1 := BX1.out 1 _ rfl
      have x2 := BX1.out 2 _ rfl
      have x3 := BX1.out 3 _ rfl
      have x4 := BX1.out 4 _ rfl
      have x5 := BX1.out 5 _ rfl
      have x6 := BX1.out 6 _ rfl
      have x7 := BX1.out 7 _ rfl
      rw [h4]
      go_wp2_with fail
      refine (spec_IsName s _).mono ?_
      rintro e wn ⟨rfl, rfl⟩
      rw [h1]
      go_wp2_with fail
      go_ret
      exact ⟨ret_bool (by simp [shapeB]), H1.out⟩
    | true =>
      cases h5 : ((body.length : Int) == 0) with
      | false =>
        have h7 := sum_no (b := els.length) (Or.inl h5)
        go_enter Try.func113, Try.ntmps113
        go_wp2_with fail
        refine (spec_SameTerm t zeroTm tk tn ts tA tm tc 0 0 ByteArray.empty none 0 0 _ (HT.out.belowA (by repeat' first|exact .refl _ _|exact Nat.le_refl _|refine .alloc ?_ ?_ _|refine .setCell ?_ ?_ _|refine .drew ?_|refine below_drewN ?_ _|assumption|(simp;done)|(simp;omega))) kidT_zero).mono ?_
        rintro e w1 ⟨rfl, b1⟩
        have H1 : Hid (Below w.heap.size w w1) := Lib.hid (Below.trans (by repeat' first|exact .refl _ _|exact Nat.le_refl _|refine .alloc ?_ ?_ _|refine .setCell ?_ ?_ _|refine .drew ?_|refine below_drewN ?_ _|assumption|(simp;done)|(simp;omega)) (b1.mono (by simp)))
        have BX1 : Hid (BoxB w1 w.heap.size [.int .i64 5, .string s, .int .i64 tk, .int .i64 tn, .string ts, .slice tA tm tc, .slice bA body.length bc, .slice eA els.length ec]) := Lib.hid (BoxB.below (BoxB.lit rfl) b1)
        clear b1
        have x0 := BX1.out 0 _ rfl
        have x1 := BX1.out 1 _ rfl
        have x2 := BX1.out 2 _ rfl
        have x3 := BX1.out 3 _ rfl
        have x4 := BX1.out 4 _ rfl
        have x5 := BX1.out 5 _ rfl
        have x6 := BX1.out 6 _ rfl
        have x7 := BX1.out 7 _ rfl
        rw [h4]
        go_wp2_with fail
        refine (spec_IsName s _).mono ?_
        rintro e wn ⟨rfl, rfl⟩
        rw [h1]
        go_wp2_with fail
        go_ret
        exact ⟨ret_bool (by simp [shapeB]), H1.out⟩
      | true =>
        cases h6 : ((els.length : Int) == 0) with
        | false =>
          have h7 := sum_no (a := body.length) (Or.inr h6)
          go_enter Try.func113, Try.ntmps113
          go_wp2_with fail
          refine (spec_SameTerm t zeroTm tk tn ts tA tm tc 0 0 ByteArray.empty none 0 0 _ (HT.out.belowA (by repeat' first|exact .refl _ _|exact Nat.le_refl _|refine .alloc ?_ ?_ _|refine .setCell ?_ ?_ _|refine .drew ?_|refine below_drewN ?_ _|assumption|(simp;done)|(simp;omega))) kidT_zero).mono ?_
          rintro e w1 ⟨rfl, b1⟩
          have H1 : Hid (Below w.heap.size w w1) := Lib.hid (Below.trans (by repeat' first|exact .refl _ _|exact Nat.le_refl _|refine .alloc ?_ ?_ _|refine .setCell ?_ ?_ _|refine .drew ?_|refine below_drewN ?_ _|assumption|(simp;done)|(simp;omega)) (b1.mono (by simp)))
          have BX1 : Hid (BoxB w1 w.heap.size [.int .i64 5, .string s, .int .i64 tk, .int .i64 tn, .string ts, .slice tA tm tc, .slice bA body.length bc, .slice eA els.length ec]) := Lib.hid (BoxB.below (BoxB.lit rfl) b1)
          clear b1
          have x0 := BX1.out 0 _ rfl
          have x1 := BX1.out 1 _ rfl
          have x2 := BX1.out 2 _ rfl
          have x3 := BX1.out 3 _ rfl
          have x4 := BX1.out 4 _ rfl
          have x5 := BX1.out 5 _ rfl
          have x6 := BX1.out 6 _ rfl
          have x7 := BX1.out 7 _ rfl
          rw [h4]
          go_wp2_with fail
          refine (spec_IsName s _).mono ?_
          rintro e wn ⟨rfl, rfl⟩
          rw [h1]
          go_wp2_with fail
          go_ret
          exact ⟨ret_bool (by simp [shapeB]), H1.out⟩
        | true =>
          have h7 := sum_yes h5 h6
          go_enter Try.func113, Try.ntmps113
          go_wp2_with fail
          refine (spec_SameTerm t zeroTm tk tn ts tA tm tc 0 0 ByteArray.empty none 0 0 _ (HT.out.belowA (by repeat' first|exact .refl _ _|exact Nat.le_refl _|refine .alloc ?_ ?_ _|refine .setCell ?_ ?_ _|refine .drew ?_|refine below_drewN ?_ _|assumption|(simp;done)|(simp;omega))) kidT_zero).mono ?_
          rintro e w1 ⟨rfl, b1⟩
          have H1 : Hid (Below w.heap.size w w1) := Lib.hid (Below.trans (by repeat' first|exact .refl _ _|exact Nat.le_refl _|refine .alloc ?_ ?_ _|refine .setCell ?_ ?_ _|refine .drew ?_|refine below_drewN ?_ _|assumption|(simp;done)|(simp;omega)) (b1.mono (by simp)))
          have BX1 : Hid (BoxB w1 w.heap.size [.int .i64 5, .string s, .int .i64 tk, .int .i64 tn, .string ts, .slice tA tm tc, .slice bA body.length bc, .slice eA els.length ec]) := Lib.hid (BoxB.below (BoxB.lit rfl) b1)
          clear b1
          have x0 := BX1.out 0 _ rfl
          have x1 := BX1.out 1 _ rfl
          have x2 := BX1.out 2 _ rfl
          have x3 := BX1.out 3 _ rfl
          have x4 := BX1.out 4 _ rfl
          have x5 := BX1.out 5 _ rfl
          have x6 := BX1.out 6 _ rfl
          have x7 := BX1.out 7 _ rfl
          rw [h4]
          go_wp2_with fail
          refine (spec_IsName s _).mono ?_
          rintro e wn ⟨rfl, rfl⟩
          rw [h1]
          go_wp2_with fail
          go_ret
          exact ⟨ret_bool (by simp [shapeB]), H1.out⟩
set_option maxHeartbeats 800000 in
theorem spec_shape_6 (s : ByteArray) (t : Tm) (tk tn : Int) (ts : ByteArray) (tA : Option Addr) (tm tc : Nat) (bA : Option Addr) (bc : Nat) (eA : Option Addr) (ec : Nat) (body els : List St) (w : World) (ht : TmIs AnyB w [.int .i64 tk, .int .i64 tn, .string ts, .slice tA tm tc] t) (hb : body.length ≤ 1048576) (he : els.length ≤ 1048576) :
    Calls Try.prog 113 #[.agg #[.int .i64 6, .string s, .int .i64 tk, .int .i64 tn, .string ts, .slice tA tm tc, .slice bA body.length bc, .slice eA els.length ec]] w fun e w' => e = .returned (.bool (shapeB 6 (isNameL s.data.toList) (s.toList.isEmpty) (okT 6 t) (sameB t zeroTm) ((body.length : Int) == 0) ((els.length : Int) == 0))) ∧ Below w.heap.size w w' := by
  have HT := Lib.hid ht
  clear ht
  cases h4 : sameB t zeroTm with
  | false =>
    cases h1 : isNameL s.data.toList
    all_goals
      go_enter Try.func113, Try.ntmps113
      go_wp2_with fail
      refine (spec_SameTerm t zeroTm tk tn ts tA tm tc 0 0 ByteArray.empty none 0 0 _ (HT.out.belowA (by repeat' first|exact .refl _ _|exact Nat.le_refl _|refine .alloc ?_ ?_ _|refine .setCell ?_ ?_ _|refine .drew ?_|refine below_drewN ?_ _|assumption|(simp;done)|(simp;omega))) kidT_zero).mono ?_
      rintro e w1 ⟨rfl, b1⟩
      have H1 : Hid (Below w.heap.size w w1) := Lib.hid (Below.trans (by repeat' first|exact .refl _ _|exact Nat.le_refl _|refine .alloc ?_ ?_ _|refine .setCell ?_ ?_ _|refine .drew ?_|refine below_drewN ?_ _|assumption|(simp;done)|(simp;omega)) (b1.mono (by simp)))
      have BX1 : Hid (BoxB w1 w.heap.size [.int .i64 6, .string s, .int .i64 tk, .int .i64 tn, .string ts, .slice tA tm tc, .slice bA body.length bc, .slice eA els.length ec]) := Lib.hid (BoxB.below (BoxB.lit rfl) b1)
      clear b1
      have x0 := BX1.out 0 _ rfl
      have x1 := BX1.out 1 _ rfl
      have x2 := BX1.out 2 _ rfl
      have x3 := BX1.out 3 _ rfl
      have x4 := BX1.out 4 _ rfl
      have x5 := BX1.out 5 _ rfl
      have x6 := BX1.out 6 _ rfl
      have x7 := BX1.out 7 _ rfl
      rw [h4]
      go_wp2_with fail
      refine (spec_IsName s _).mono ?_
      rintro e wn ⟨rfl, rfl⟩
      rw [h1]
      go_wp2_with fail
      go_ret
      exact ⟨ret_bool (by simp [shapeB]), H1.out⟩
  | true =>
    cases h1 : isNameL s.data.toList with
    | false =>
      go_enter Try.func113, Try.ntmps113
      go_wp2_with fail
      refine (spec_SameTerm t zeroTm tk tn ts tA tm tc 0 0 ByteArray.empty none 0 0 _ (HT.out.belowA (by repeat' first|exact .refl _ _|exact Nat.le_refl _|refine .alloc ?_ ?_ _|refine .setCell ?_ ?_ _|refine .drew ?_|refine below_drewN ?_ _|assumption|(simp;done)|(simp;omega))) kidT_zero).mono ?_
      rintro e w1 ⟨rfl, b1⟩
      have H1 : Hid (Below w.heap.size w w1) := Lib.hid (Below.trans (by repeat' first|exact .refl _ _|exact Nat.le_refl _|refine .alloc ?_ ?_ _|refine .setCell ?_ ?_ _|refine .drew ?_|refine below_drewN ?_ _|assumption|(simp;done)|(simp;omega)) (b1.mono (by simp)))
      have BX1 : Hid (BoxB w1 w.heap.size [.int .i64 6, .string s, .int .i64 tk, .int .i64 tn, .string ts, .slice tA tm tc, .slice bA body.length bc, .slice eA els.length ec]) := Lib.hid (BoxB.below (BoxB.lit rfl) b1)
      clear b1
      have x0 := BX1.out 0 _ rfl
      have x1 := BX1.out 1 _ rfl
      have x2 := BX1.out 2 _ rfl
      have x3 := BX1.out 3 _ rfl
      have x4 := BX1.out 4 _ rfl
      have x5 := BX1.out 5 _ rfl
      have x6 := BX1.out 6 _ rfl
      have x7 := BX1.out 7 _ rfl
      rw [h4]
      go_wp2_with fail
      refine (spec_IsName s _).mono ?_
      rintro e wn ⟨rfl, rfl⟩
      rw [h1]
      go_wp2_with fail
      go_ret
      exact ⟨ret_bool (by simp [shapeB]), H1.out⟩
    | true =>
      cases h5 : ((body.length : Int) == 0) with
      | false =>
        have h7 := sum_no (b := els.length) (Or.inl h5)
        go_enter Try.func113, Try.ntmps113
        go_wp2_with fail
        refine (spec_SameTerm t zeroTm tk tn ts tA tm tc 0 0 ByteArray.empty none 0 0 _ (HT.out.belowA (by repeat' first|exact .refl _ _|exact Nat.le_refl _|refine .alloc ?_ ?_ _|refine .setCell ?_ ?_ _|refine .drew ?_|refine below_drewN ?_ _|assumption|(simp;done)|(simp;omega))) kidT_zero).mono ?_
        rintro e w1 ⟨rfl, b1⟩
        have H1 : Hid (Below w.heap.size w w1) := Lib.hid (Below.trans (by repeat' first|exact .refl _ _|exact Nat.le_refl _|refine .alloc ?_ ?_ _|refine .setCell ?_ ?_ _|refine .drew ?_|refine below_drewN ?_ _|assumption|(simp;done)|(simp;omega)) (b1.mono (by simp)))
        have BX1 : Hid (BoxB w1 w.heap.size [.int .i64 6, .string s, .int .i64 tk, .int .i64 tn, .string ts, .slice tA tm tc, .slice bA body.length bc, .slice eA els.length ec]) := Lib.hid (BoxB.below (BoxB.lit rfl) b1)
        clear b1
        have x0 := BX1.out 0 _ rfl
        have x1 := BX1.out 1 _ rfl
        have x2 := BX1.out 2 _ rfl
        have x3 := BX1.out 3 _ rfl
        have x4 := BX1.out 4 _ rfl
        have x5 := BX1.out 5 _ rfl
        have x6 := BX1.out 6 _ rfl
        have x7 := BX1.out 7 _ rfl
        rw [h4]
        go_wp2_with fail
        refine (spec_IsName s _).mono ?_
        rintro e wn ⟨rfl, rfl⟩
        rw [h1]
        go_wp2_with fail
        go_ret
        exact ⟨ret_bool (by simp [shapeB]), H1.out⟩
      | true =>
        cases h6 : ((els.length : Int) == 0) with
        | false =>
          have h7 := sum_no (a := body.length) (Or.inr h6)
          go_enter Try.func113, Try.ntmps113
          go_wp2_with fail
          refine (spec_SameTerm t zeroTm tk tn ts tA tm tc 0 0 ByteArray.empty none 0 0 _ (HT.out.belowA (by repeat' first|exact .refl _ _|exact Nat.le_refl _|refine .alloc ?_ ?_ _|refine .setCell ?_ ?_ _|refine .drew ?_|refine below_drewN ?_ _|assumption|(simp;done)|(simp;omega))) kidT_zero).mono ?_
          rintro e w1 ⟨rfl, b1⟩
          have H1 : Hid (Below w.heap.size w w1) := Lib.hid (Below.trans (by repeat' first|exact .refl _ _|exact Nat.le_refl _|refine .alloc ?_ ?_ _|refine .setCell ?_ ?_ _|refine .drew ?_|refine below_drewN ?_ _|assumption|(simp;done)|(simp;omega)) (b1.mono (by simp)))
          have BX1 : Hid (BoxB w1 w.heap.size [.int .i64 6, .string s, .int .i64 tk, .int .i64 tn, .string ts, .slice tA tm tc, .slice bA body.length bc, .slice eA els.length ec]) := Lib.hid (BoxB.below (BoxB.lit rfl) b1)
          clear b1
          have x0 := BX1.out 0 _ rfl
          have x1 := BX1.out 1 _ rfl
          have x2 := BX1.out 2 _ rfl
          have x3 := BX1.out 3 _ rfl
          have x4 := BX1.out 4 _ rfl
          have x5 := BX1.out 5 _ rfl
          have x6 := BX1.out 6 _ rfl
          have x7 := BX1.out 7 _ rfl
          rw [h4]
          go_wp2_with fail
          refine (spec_IsName s _).mono ?_
          rintro e wn ⟨rfl, rfl⟩
          rw [h1]
          go_wp2_with fail
          go_ret
          exact ⟨ret_bool (by simp [shapeB]), H1.out⟩
        | true =>
          have h7 := sum_yes h5 h6
          go_enter Try.func113, Try.ntmps113
          go_wp2_with fail
          refine (spec_SameTerm t zeroTm tk tn ts tA tm tc 0 0 ByteArray.empty none 0 0 _ (HT.out.belowA (by repeat' first|exact .refl _ _|exact Nat.le_refl _|refine .alloc ?_ ?_ _|refine .setCell ?_ ?_ _|refine .drew ?_|refine below_drewN ?_ _|assumption|(simp;done)|(simp;omega))) kidT_zero).mono ?_
          rintro e w1 ⟨rfl, b1⟩
          have H1 : Hid (Below w.heap.size w w1) := Lib.hid (Below.trans (by repeat' first|exact .refl _ _|exact Nat.le_refl _|refine .alloc ?_ ?_ _|refine .setCell ?_ ?_ _|refine .drew ?_|refine below_drewN ?_ _|assumption|(simp;done)|(simp;omega)) (b1.mono (by simp)))
          have BX1 : Hid (BoxB w1 w.heap.size [.int .i64 6, .string s, .int .i64 tk, .int .i64 tn, .string ts, .slice tA tm tc, .slice bA body.length bc, .slice eA els.length ec]) := Lib.hid (BoxB.below (BoxB.lit rfl) b1)
          clear b1
          have x0 := BX1.out 0 _ rfl
          have x1 := BX1.out 1 _ rfl
          have x2 := BX1.out 2 _ rfl
          have x3 := BX1.out 3 _ rfl
          have x4 := BX1.out 4 _ rfl
          have x5 := BX1.out 5 _ rfl
          have x6 := BX1.out 6 _ rfl
          have x7 := BX1.out 7 _ rfl
          rw [h4]
          go_wp2_with fail
          refine (spec_IsName s _).mono ?_
          rintro e wn ⟨rfl, rfl⟩
          rw [h1]
          go_wp2_with fail
          go_ret
          exact ⟨ret_bool (by simp [shapeB]), H1.out⟩
set_option maxHeartbeats 800000 in
theorem spec_shape_7 (s : ByteArray) (t : Tm) (tk tn : Int) (ts : ByteArray) (tA : Option Addr) (tm tc : Nat) (bA : Option Addr) (bc : Nat) (eA : Option Addr) (ec : Nat) (body els : List St) (w : World) (ht : TmIs AnyB w [.int .i64 tk, .int .i64 tn, .string ts, .slice tA tm tc] t) (hb : body.length ≤ 1048576) (he : els.length ≤ 1048576) :
    Calls Try.prog 113 #[.agg #[.int .i64 7, .string s, .int .i64 tk, .int .i64 tn, .string ts, .slice tA tm tc, .slice bA body.length bc, .slice eA els.length ec]] w fun e w' => e = .returned (.bool (shapeB 7 (isNameL s.data.toList) (s.toList.isEmpty) (okT 6 t) (sameB t zeroTm) ((body.length : Int) == 0) ((els.length : Int) == 0))) ∧ Below w.heap.size w w' := by
  have HT := Lib.hid ht
  clear ht
  cases h4 : sameB t zeroTm with
  | false =>
    cases h1 : isNameL s.data.toList
    all_goals
      go_enter Try.func113, Try.ntmps113
      go_wp2_with fail
      refine (spec_SameTerm t zeroTm tk tn ts tA tm tc 0 0 ByteArray.empty none 0 0 _ (HT.out.belowA (by repeat' first|exact .refl _ _|exact Nat.le_refl _|refine .alloc ?_ ?_ _|refine .setCell ?_ ?_ _|refine .drew ?_|refine below_drewN ?_ _|assumption|(simp;done)|(simp;omega))) kidT_zero).mono ?_
      rintro e w1 ⟨rfl, b1⟩
      have H1 : Hid (Below w.heap.size w w1) := Lib.hid (Below.trans (by repeat' first|exact .refl _ _|exact Nat.le_refl _|refine .alloc ?_ ?_ _|refine .setCell ?_ ?_ _|refine .drew ?_|refine below_drewN ?_ _|assumption|(simp;done)|(simp;omega)) (b1.mono (by simp)))
      have BX1 : Hid (BoxB w1 w.heap.size [.int .i64 7, .string s, .int .i64 tk, .int .i64 tn, .string ts, .slice tA tm tc, .slice bA body.length bc, .slice eA els.length ec]) := Lib.hid (BoxB.below (BoxB.lit rfl) b1)
      clear b1
      have x0 := BX1.out 0 _ rfl
      have x1 := BX1.out 1 _ rfl
      have x2 := BX1.out 2 _ rfl
      have x3 := BX1.out 3 _ rfl
      have x4 := BX1.out 4 _ rfl
      have x5 := BX1.out 5 _ rfl
      have x6 := BX1.out 6 _ rfl
      have x7 := BX1.out 7 _ rfl
      rw [h4]
      go_wp2_with fail
      refine (spec_IsName s _).mono ?_
      rintro e wn ⟨rfl, rfl⟩
      rw [h1]
      go_wp2_with fail
      go_ret
      exact ⟨ret_bool (by simp [shapeB]), H1.out⟩
  | true =>
    cases h1 : isNameL s.data.toList with
    | false =>
      go_enter Try.func113, Try.ntmps113
      go_wp2_with fail
      refine (spec_SameTerm t zeroTm tk tn ts tA tm tc 0 0 ByteArray.empty none 0 0 _ (HT.out.belowA (by repeat' first|exact .refl _ _|exact Nat.le_refl _|refine .alloc ?_ ?_ _|refine .setCell ?_ ?_ _|refine .drew ?_|refine below_drewN ?_ _|assumption|(simp;done)|(simp;omega))) kidT_zero).mono ?_
      rintro e w1 ⟨rfl, b1⟩
      have H1 : Hid (Below w.heap.size w w1) := Lib.hid (Below.trans (by repeat' first|exact .refl _ _|exact Nat.le_refl _|refine .alloc ?_ ?_ _|refine .setCell ?_ ?_ _|refine .drew ?_|refine below_drewN ?_ _|assumption|(simp;done)|(simp;omega)) (b1.mono (by simp)))
      have BX1 : Hid (BoxB w1 w.heap.size [.int .i64 7, .string s, .int .i64 tk, .int .i64 tn, .string ts, .slice tA tm tc, .slice bA body.length bc, .slice eA els.length ec]) := Lib.hid (BoxB.below (BoxB.lit rfl) b1)
      clear b1
      have x0 := BX1.out 0 _ rfl
      have x1 := BX1.out 1 _ rfl
      have x2 := BX1.out 2 _ rfl
      have x3 := BX1.out 3 _ rfl
      have x4 := BX1.out 4 _ rfl
      have x5 := BX1.out 5 _ rfl
      have x6 := BX1.out 6 _ rfl
      have x7 := BX1.out 7 _ rfl
      rw [h4]
      go_wp2_with fail
      refine (spec_IsName s _).mono ?_
      rintro e wn ⟨rfl, rfl⟩
      rw [h1]
      go_wp2_with fail
      go_ret
      exact ⟨ret_bool (by simp [shapeB]), H1.out⟩
    | true =>
      cases h5 : ((body.length : Int) == 0) with
      | false =>
        have h7 := sum_no (b := els.length) (Or.inl h5)
        go_enter Try.func113, Try.ntmps113
        go_wp2_with fail
        refine (spec_SameTerm t zeroTm tk tn ts tA tm tc 0 0 ByteArray.empty none 0 0 _ (HT.out.belowA (by repeat' first|exact .refl _ _|exact Nat.le_refl _|refine .alloc ?_ ?_ _|refine .setCell ?_ ?_ _|refine .drew ?_|refine below_drewN ?_ _|assumption|(simp;done)|(simp;omega))) kidT_zero).mono ?_
        rintro e w1 ⟨rfl, b1⟩
        have H1 : Hid (Below w.heap.size w w1) := Lib.hid (Below.trans (by repeat' first|exact .refl _ _|exact Nat.le_refl _|refine .alloc ?_ ?_ _|refine .setCell ?_ ?_ _|refine .drew ?_|refine below_drewN ?_ _|assumption|(simp;done)|(simp;omega)) (b1.mono (by simp)))
        have BX1 : Hid (BoxB w1 w.heap.size [.int .i64 7, .string s, .int .i64 tk, .int .i64 tn, .string ts, .slice tA tm tc, .slice bA body.length bc, .slice eA els.length ec]) := Lib.hid (BoxB.below (BoxB.lit rfl) b1)
        clear b1
        have x0 := BX1.out 0 _ rfl
        have x1 := BX1.out 1 _ rfl
        have x2 := BX1.out 2 _ rfl
        have x3 := BX1.out 3 _ rfl
        have x4 := BX1.out 4 _ rfl
        have x5 := BX1.out 5 _ rfl
        have x6 := BX1.out 6 _ rfl
        have x7 := BX1.out 7 _ rfl
        rw [h4]
        go_wp2_with fail
        refine (spec_IsName s _).mono ?_
        rintro e wn ⟨rfl, rfl⟩
        rw [h1]
        go_wp2_with fail
        go_ret
        exact ⟨ret_bool (by simp [shapeB]), H1.out⟩
      | true =>
        cases h6 : ((els.length : Int) == 0) with
        | false =>
          have h7 := sum_no (a := body.length) (Or.inr h6)
          go_enter Try.func113, Try.ntmps113
          go_wp2_with fail
          refine (spec_SameTerm t zeroTm tk tn ts tA tm tc 0 0 ByteArray.empty none 0 0 _ (HT.out.belowA (by repeat' first|exact .refl _ _|exact Nat.le_refl _|refine .alloc ?_ ?_ _|refine .setCell ?_ ?_ _|refine .drew ?_|refine below_drewN ?_ _|assumption|(simp;done)|(simp;omega))) kidT_zero).mono ?_
          rintro e w1 ⟨rfl, b1⟩
          have H1 : Hid (Below w.heap.size w w1) := Lib.hid (Below.trans (by repeat' first|exact .refl _ _|exact Nat.le_refl _|refine .alloc ?_ ?_ _|refine .setCell ?_ ?_ _|refine .drew ?_|refine below_drewN ?_ _|assumption|(simp;done)|(simp;omega)) (b1.mono (by simp)))
          have BX1 : Hid (BoxB w1 w.heap.size [.int .i64 7, .string s, .int .i64 tk, .int .i64 tn, .string ts, .slice tA tm tc, .slice bA body.length bc, .slice eA els.length ec]) := Lib.hid (BoxB.below (BoxB.lit rfl) b1)
          clear b1
          have x0 := BX1.out 0 _ rfl
          have x1 := BX1.out 1 _ rfl
          have x2 := BX1.out 2 _ rfl
          have x3 := BX1.out 3 _ rfl
          have x4 := BX1.out 4 _ rfl
          have x5 := BX1.out 5 _ rfl
          have x6 := BX1.out 6 _ rfl
          have x7 := BX1.out 7 _ rfl
          rw [h4]
          go_wp2_with fail
          refine (spec_IsName s _).mono ?_
          rintro e wn ⟨rfl, rfl⟩
          rw [h1]
          go_wp2_with fail
          go_ret
          exact ⟨ret_bool (by simp [shapeB]), H1.out⟩
        | true =>
          have h7 := sum_yes h5 h6
          go_enter Try.func113, Try.ntmps113
          go_wp2_with fail
          refine (spec_SameTerm t zeroTm tk tn ts tA tm tc 0 0 ByteArray.empty none 0 0 _ (HT.out.belowA (by repeat' first|exact .refl _ _|exact Nat.le_refl _|refine .alloc ?_ ?_ _|refine .setCell ?_ ?_ _|refine .drew ?_|refine below_drewN ?_ _|assumption|(simp;done)|(simp;omega))) kidT_zero).mono ?_
          rintro e w1 ⟨rfl, b1⟩
          have H1 : Hid (Below w.heap.size w w1) := Lib.hid (Below.trans (by repeat' first|exact .refl _ _|exact Nat.le_refl _|refine .alloc ?_ ?_ _|refine .setCell ?_ ?_ _|refine .drew ?_|refine below_drewN ?_ _|assumption|(simp;done)|(simp;omega)) (b1.mono (by simp)))
          have BX1 : Hid (BoxB w1 w.heap.size [.int .i64 7, .string s, .int .i64 tk, .int .i64 tn, .string ts, .slice tA tm tc, .slice bA body.length bc, .slice eA els.length ec]) := Lib.hid (BoxB.below (BoxB.lit rfl) b1)
          clear b1
          have x0 := BX1.out 0 _ rfl
          have x1 := BX1.out 1 _ rfl
          have x2 := BX1.out 2 _ rfl
          have x3 := BX1.out 3 _ rfl
          have x4 := BX1.out 4 _ rfl
          have x5 := BX1.out 5 _ rfl
          have x6 := BX1.out 6 _ rfl
          have x7 := BX1.out 7 _ rfl
          rw [h4]
          go_wp2_with fail
          refine (spec_IsName s _).mono ?_
          rintro e wn ⟨rfl, rfl⟩
          rw [h1]
          go_wp2_with fail
          go_ret
          exact ⟨ret_bool (by simp [shapeB]), H1.out⟩
set_option maxHeartbeats 800000 in
theorem spec_shape_8 (s : ByteArray) (t : Tm) (tk tn : Int) (ts : ByteArray) (tA : Option Addr) (tm tc : Nat) (bA : Option Addr) (bc : Nat) (eA : Option Addr) (ec : Nat) (body els : List St) (w : World) (ht : TmIs AnyB w [.int .i64 tk, .int .i64 tn, .string ts, .slice tA tm tc] t) (hb : body.length ≤ 1048576) (he : els.length ≤ 1048576) :
    Calls Try.prog 113 #[.agg #[.int .i64 8, .string s, .int .i64 tk, .int .i64 tn, .string ts, .slice tA tm tc, .slice bA body.length bc, .slice eA els.length ec]] w fun e w' => e = .returned (.bool (shapeB 8 (isNameL s.data.toList) (s.toList.isEmpty) (okT 6 t) (sameB t zeroTm) ((body.length : Int) == 0) ((els.length : Int) == 0))) ∧ Below w.heap.size w w' := by
  have HT := Lib.hid ht
  clear ht
  cases h4 : sameB t zeroTm with
  | false =>
    cases h2 : s.toList.isEmpty
    all_goals
      go_enter Try.func113, Try.ntmps113
      go_wp2_with fail
      refine (spec_SameTerm t zeroTm tk tn ts tA tm tc 0 0 ByteArray.empty none 0 0 _ (HT.out.belowA (by repeat' first|exact .refl _ _|exact Nat.le_refl _|refine .alloc ?_ ?_ _|refine .setCell ?_ ?_ _|refine .drew ?_|refine below_drewN ?_ _|assumption|(simp;done)|(simp;omega))) kidT_zero).mono ?_
      rintro e w1 ⟨rfl, b1⟩
      have H1 : Hid (Below w.heap.size w w1) := Lib.hid (Below.trans (by repeat' first|exact .refl _ _|exact Nat.le_refl _|refine .alloc ?_ ?_ _|refine .setCell ?_ ?_ _|refine .drew ?_|refine below_drewN ?_ _|assumption|(simp;done)|(simp;omega)) (b1.mono (by simp)))
      have BX1 : Hid (BoxB w1 w.heap.size [.int .i64 8, .string s, .int .i64 tk, .int .i64 tn, .string ts, .slice tA tm tc, .slice bA body.length bc, .slice eA els.length ec]) := Lib.hid (BoxB.below (BoxB.lit rfl) b1)
      clear b1
      have x0 := BX1.out 0 _ rfl
      have x1 := BX1.out 1 _ rfl
      have x2 := BX1.out 2 _ rfl
      have x3 := BX1.out 3 _ rfl
      have x4 := BX1.out 4 _ rfl
      have x5 := BX1.out 5 _ rfl
      have x6 := BX1.out 6 _ rfl
      have x7 := BX1.out 7 _ rfl
      rw [h4]
      go_wp2_with fail
      go_ret
      exact ⟨ret_bool (by simp [shapeB]), H1.out⟩
  | true =>
    cases h2 : s.toList.isEmpty with
    | false =>
      go_enter Try.func113, Try.ntmps113
      go_wp2_with fail
      refine (spec_SameTerm t zeroTm tk tn ts tA tm tc 0 0 ByteArray.empty none 0 0 _ (HT.out.belowA (by repeat' first|exact .refl _ _|exact Nat.le_refl _|refine .alloc ?_ ?_ _|refine .setCell ?_ ?_ _|refine .drew ?_|refine below_drewN ?_ _|assumption|(simp;done)|(simp;omega))) kidT_zero).mono ?_
      rintro e w1 ⟨rfl, b1⟩
      have H1 : Hid (Below w.heap.size w w1) := Lib.hid (Below.trans (by repeat' first|exact .refl _ _|exact Nat.le_refl _|refine .alloc ?_ ?_ _|refine .setCell ?_ ?_ _|refine .drew ?_|refine below_drewN ?_ _|assumption|(simp;done)|(simp;omega)) (b1.mono (by simp)))
      have BX1 : Hid (BoxB w1 w.heap.size [.int .i64 8, .string s, .int .i64 tk, .int .i64 tn, .string ts, .slice tA tm tc, .slice bA body.length bc, .slice eA els.length ec]) := Lib.hid (BoxB.below (BoxB.lit rfl) b1)
      clear b1
      have x0 := BX1.out 0 _ rfl
      have x1 := BX1.out 1 _ rfl
      have x2 := BX1.out 2 _ rfl
      have x3 := BX1.out 3 _ rfl
      have x4 := BX1.out 4 _ rfl
      have x5 := BX1.out 5 _ rfl
      have x6 := BX1.out 6 _ rfl
      have x7 := BX1.out 7 _ rfl
      rw [h4]
      go_wp2_with fail
      go_ret
      exact ⟨ret_bool (by simp [shapeB]), H1.out⟩
    | true =>
      cases h5 : ((body.length : Int) == 0) with
      | false =>
        have h7 := sum_no (b := els.length) (Or.inl h5)
        go_enter Try.func113, Try.ntmps113
        go_wp2_with fail
        refine (spec_SameTerm t zeroTm tk tn ts tA tm tc 0 0 ByteArray.empty none 0 0 _ (HT.out.belowA (by repeat' first|exact .refl _ _|exact Nat.le_refl _|refine .alloc ?_ ?_ _|refine .setCell ?_ ?_ _|refine .drew ?_|refine below_drewN ?_ _|assumption|(simp;done)|(simp;omega))) kidT_zero).mono ?_
        rintro e w1 ⟨rfl, b1⟩
        have H1 : Hid (Below w.heap.size w w1) := Lib.hid (Below.trans (by repeat' first|exact .refl _ _|exact Nat.le_refl _|refine .alloc ?_ ?_ _|refine .setCell ?_ ?_ _|refine .drew ?_|refine below_drewN ?_ _|assumption|(simp;done)|(simp;omega)) (b1.mono (by simp)))
        have BX1 : Hid (BoxB w1 w.heap.size [.int .i64 8, .string s, .int .i64 tk, .int .i64 tn, .string ts, .slice tA tm tc, .slice bA body.length bc, .slice eA els.length ec]) := Lib.hid (BoxB.below (BoxB.lit rfl) b1)
        clear b1
        have x0 := BX1.out 0 _ rfl
        have x1 := BX1.out 1 _ rfl
        have x2 := BX1.out 2 _ rfl
        have x3 := BX1.out 3 _ rfl
        have x4 := BX1.out 4 _ rfl
        have x5 := BX1.out 5 _ rfl
        have x6 := BX1.out 6 _ rfl
        have x7 := BX1.out 7 _ rfl
        rw [h4]
        go_wp2_with fail
        go_ret
        exact ⟨ret_bool (by simp [shapeB]), H1.out⟩
      | true =>
        cases h6 : ((els.length : Int) == 0) with
        | false =>
          have h7 := sum_no (a := body.length) (Or.inr h6)
          go_enter Try.func113, Try.ntmps113
          go_wp2_with fail
          refine (spec_SameTerm t zeroTm tk tn ts tA tm tc 0 0 ByteArray.empty none 0 0 _ (HT.out.belowA (by repeat' first|exact .refl _ _|exact Nat.le_refl _|refine .alloc ?_ ?_ _|refine .setCell ?_ ?_ _|refine .drew ?_|refine below_drewN ?_ _|assumption|(simp;done)|(simp;omega))) kidT_zero).mono ?_
          rintro e w1 ⟨rfl, b1⟩
          have H1 : Hid (Below w.heap.size w w1) := Lib.hid (Below.trans (by repeat' first|exact .refl _ _|exact Nat.le_refl _|refine .alloc ?_ ?_ _|refine .setCell ?_ ?_ _|refine .drew ?_|refine below_drewN ?_ _|assumption|(simp;done)|(simp;omega)) (b1.mono (by simp)))
          have BX1 : Hid (BoxB w1 w.heap.size [.int .i64 8, .string s, .int .i64 tk, .int .i64 tn, .string ts, .slice tA tm tc, .slice bA body.length bc, .slice eA els.length ec]) := Lib.hid (BoxB.below (BoxB.lit rfl) b1)
          clear b1
          have x0 := BX1.out 0 _ rfl
          have x1 := BX1.out 1 _ rfl
          have x2 := BX1.out 2 _ rfl
          have x3 := BX1.out 3 _ rfl
          have x4 := BX1.out 4 _ rfl
          have x5 := BX1.out 5 _ rfl
          have x6 := BX1.out 6 _ rfl
          have x7 := BX1.out 7 _ rfl
          rw [h4]
          go_wp2_with fail
          go_ret
          exact ⟨ret_bool (by simp [shapeB]), H1.out⟩
        | true =>
          have h7 := sum_yes h5 h6
          go_enter Try.func113, Try.ntmps113
          go_wp2_with fail
          refine (spec_SameTerm t zeroTm tk tn ts tA tm tc 0 0 ByteArray.empty none 0 0 _ (HT.out.belowA (by repeat' first|exact .refl _ _|exact Nat.le_refl _|refine .alloc ?_ ?_ _|refine .setCell ?_ ?_ _|refine .drew ?_|refine below_drewN ?_ _|assumption|(simp;done)|(simp;omega))) kidT_zero).mono ?_
          rintro e w1 ⟨rfl, b1⟩
          have H1 : Hid (Below w.heap.size w w1) := Lib.hid (Below.trans (by repeat' first|exact .refl _ _|exact Nat.le_refl _|refine .alloc ?_ ?_ _|refine .setCell ?_ ?_ _|refine .drew ?_|refine below_drewN ?_ _|assumption|(simp;done)|(simp;omega)) (b1.mono (by simp)))
          have BX1 : Hid (BoxB w1 w.heap.size [.int .i64 8, .string s, .int .i64 tk, .int .i64 tn, .string ts, .slice tA tm tc, .slice bA body.length bc, .slice eA els.length ec]) := Lib.hid (BoxB.below (BoxB.lit rfl) b1)
          clear b1
          have x0 := BX1.out 0 _ rfl
          have x1 := BX1.out 1 _ rfl
          have x2 := BX1.out 2 _ rfl
          have x3 := BX1.out 3 _ rfl
          have x4 := BX1.out 4 _ rfl
          have x5 := BX1.out 5 _ rfl
          have x6 := BX1.out 6 _ rfl
          have x7 := BX1.out 7 _ rfl
          rw [h4]
          go_wp2_with fail
          go_ret
          exact ⟨ret_bool (by simp [shapeB]), H1.out⟩
set_option maxHeartbeats 800000 in
theorem impl_shape_no (K : Int) (s : ByteArray) (t : Tm) (tk tn : Int) (ts : ByteArray) (tA : Option Addr) (tm tc : Nat) (bA : Option Addr) (bc : Nat) (eA : Option Addr) (ec : Nat) (body els : List St) (w : World) (ht : TmIs AnyB w [.int .i64 tk, .int .i64 tn, .string ts, .slice tA tm tc] t) (hb : body.length ≤ 1048576) (he : els.length ≤ 1048576) (n1 : (K == 1) = false) (n2 : (K == 2) = false) (n3 : (K == 3) = false) (n4 : (K == 4) = false) (n5 : (K == 5) = false) (n6 : (K == 6) = false) (n7 : (K == 7) = false) (n8 : (K == 8) = false) :
    Calls Try.prog 98 #[.agg #[.int .i64 K, .string s, .int .i64 tk, .int .i64 tn, .string ts, .slice tA tm tc, .slice bA body.length bc, .slice eA els.length ec]] w fun e w' => e = .returned (.bool false) ∧ Below w.heap.size w w' := by
  have HT := Lib.hid ht
  clear ht
  go_enter Try.func98, Try.ntmps98
  go_wp2_with fail
  go_ret
  exact ⟨rfl, (by repeat' first|exact .refl _ _|exact Nat.le_refl _|refine .alloc ?_ ?_ _|refine .setCell ?_ ?_ _|refine .drew ?_|refine below_drewN ?_ _|assumption|(simp;done)|(simp;omega))⟩
set_option maxHeartbeats 800000 in
theorem spec_shape_no (K : Int) (s : ByteArray) (t : Tm) (tk tn : Int) (ts : ByteArray) (tA : Option Addr) (tm tc : Nat) (bA : Option Addr) (bc : Nat) (eA : Option Addr) (ec : Nat) (body els : List St) (w : World) (ht : TmIs AnyB w [.int .i64 tk, .int .i64 tn, .string ts, .slice tA tm tc] t) (hb : body.length ≤ 1048576) (he : els.length ≤ 1048576) (n1 : (K == 1) = false) (n2 : (K == 2) = false) (n3 : (K == 3) = false) (n4 : (K == 4) = false) (n5 : (K == 5) = false) (n6 : (K == 6) = false) (n7 : (K == 7) = false) (n8 : (K == 8) = false) :
    Calls Try.prog 113 #[.agg #[.int .i64 K, .string s, .int .i64 tk, .int .i64 tn, .string ts, .slice tA tm tc, .slice bA body.length bc, .slice eA els.length ec]] w fun e w' => e = .returned (.bool false) ∧ Below w.heap.size w w' := by
  have HT := Lib.hid ht
  clear ht
  cases h4 : sameB t zeroTm
  all_goals
    go_enter Try.func113, Try.ntmps113
    go_wp2_with fail
    refine (spec_SameTerm t zeroTm tk tn ts tA tm tc 0 0 ByteArray.empty none 0 0 _ (HT.out.belowA (by repeat' first|exact .refl _ _|exact Nat.le_refl _|refine .alloc ?_ ?_ _|refine .setCell ?_ ?_ _|refine .drew ?_|refine below_drewN ?_ _|assumption|(simp;done)|(simp;omega))) kidT_zero).mono ?_
    rintro e w1 ⟨rfl, b1⟩
    have H1 : Hid (Below w.heap.size w w1) := Lib.hid (Below.trans (by repeat' first|exact .refl _ _|exact Nat.le_refl _|refine .alloc ?_ ?_ _|refine .setCell ?_ ?_ _|refine .drew ?_|refine below_drewN ?_ _|assumption|(simp;done)|(simp;omega)) (b1.mono (by simp)))
    have BX1 : Hid (BoxB w1 w.heap.size [.int .i64 K, .string s, .int .i64 tk, .int .i64 tn, .string ts, .slice tA tm tc, .slice bA body.length bc, .slice eA els.length ec]) := Lib.hid (BoxB.below (BoxB.lit rfl) b1)
    clear b1
    have x0 := BX1.out 0 _ rfl
    have x1 := BX1.out 1 _ rfl
    have x2 := BX1.out 2 _ rfl
    have x3 := BX1.out 3 _ rfl
    have x4 := BX1.out 4 _ rfl
    have x5 := BX1.out 5 _ rfl
    have x6 := BX1.out 6 _ rfl
    have x7 := BX1.out 7 _ rfl
    rw [h4]
    go_wp2_with fail
    go_ret
    exact ⟨rfl, H1.out⟩
theorem impl_shape (g : St) (x : V8) (w : World) (hg : StIs AnyB w x g) (hb : x.bm ≤ 1048576) (he : x.em ≤ 1048576) :
    Calls Try.prog 98 #[.agg #[.int .i64 x.k, .string x.s, .int .i64 x.tk, .int .i64 x.tn, .string x.ts, .slice x.tA x.tm x.tc, .slice x.bA x.bm x.bc, .slice x.eA x.em x.ec]] w fun e w' => e = .returned (.bool (shapeG g)) ∧ Below w.heap.size w w' := by
  obtain ⟨t, body, els, rfl, _, _, ht, hb1, _, _, _, he1, _, _, _⟩ := hg.inv
  obtain ⟨k, s, tk, tn, ts, tA, tm, tc, bA, bm, bc, eA, em, ec⟩ := x
  simp only at hb1 he1 hb he
  simp only [shapeG]
  subst hb1 he1
  have ht' : TmIs AnyB w [.int .i64 tk, .int .i64 tn, .string ts, .slice tA tm tc] t := ht
  by_cases c1 : k = 1
  · subst c1; exact impl_shape_1 s t tk tn ts tA tm tc bA bc eA ec body els w ht' hb he
  by_cases c2 : k = 2
  · subst c2; exact impl_shape_2 s t tk tn ts tA tm tc bA bc eA ec body els w ht' hb he
  by_cases c3 : k = 3
  · subst c3; exact impl_shape_3 s t tk tn ts tA tm tc bA bc eA ec body els w ht' hb he
  by_cases c4 : k = 4
  · subst c4; exact impl_shape_4 s t tk tn ts tA tm tc bA bc eA ec body els w ht' hb he
  by_cases c5 : k = 5
  · subst c5; exact impl_shape_5 s t tk tn ts tA tm tc bA bc eA ec body els w ht' hb he
  by_cases c6 : k = 6
  · subst c6; exact impl_shape_6 s t tk tn ts tA tm tc bA bc eA ec body els w ht' hb he
  by_cases c7 : k = 7
  · subst c7; exact impl_shape_7 s t tk tn ts tA tm tc bA bc eA ec body els w ht' hb he
  by_cases c8 : k = 8
  · subst c8; exact impl_shape_8 s t tk tn ts tA tm tc bA bc eA ec body els w ht' hb he
  have e0 : shapeB k (isNameL s.data.toList) s.toList.isEmpty (okT 6 t) (sameB t zeroTm) ((body.length : Int) == 0) ((els.length : Int) == 0) = false := by simp [shapeB, c1, c2, c3, c4, c5, c6, c7, c8]
  rw [e0]
  exact impl_shape_no k s t tk tn ts tA tm tc bA bc eA ec body els w ht' hb he (beq_eq_false_iff_ne.2 c1) (beq_eq_false_iff_ne.2 c2) (beq_eq_false_iff_ne.2 c3) (beq_eq_false_iff_ne.2 c4) (beq_eq_false_iff_ne.2 c5) (beq_eq_false_iff_ne.2 c6) (beq_eq_false_iff_ne.2 c7) (beq_eq_false_iff_ne.2 c8)
theorem spec_shape (g : St) (x : V8) (w : World) (hg : StIs AnyB w x g) (hb : x.bm ≤ 1048576) (he : x.em ≤ 1048576) :
    Calls Try.prog 113 #[.agg #[.int .i64 x.k, .string x.s, .int .i64 x.tk, .int .i64 x.tn, .string x.ts, .slice x.tA x.tm x.tc, .slice x.bA x.bm x.bc, .slice x.eA x.em x.ec]] w fun e w' => e = .returned (.bool (shapeG g)) ∧ Below w.heap.size w w' := by
  obtain ⟨t, body, els, rfl, _, _, ht, hb1, _, _, _, he1, _, _, _⟩ := hg.inv
  obtain ⟨k, s, tk, tn, ts, tA, tm, tc, bA, bm, bc, eA, em, ec⟩ := x
  simp only at hb1 he1 hb he
  simp only [shapeG]
  subst hb1 he1
  have ht' : TmIs AnyB w [.int .i64 tk, .int .i64 tn, .string ts, .slice tA tm tc] t := ht
  by_cases c1 : k = 1
  · subst c1; exact spec_shape_1 s t tk tn ts tA tm tc bA bc eA ec body els w ht' hb he
  by_cases c2 : k = 2
  · subst c2; exact spec_shape_2 s t tk tn ts tA tm tc bA bc eA ec body els w ht' hb he
  by_cases c3 : k = 3
  · subst c3; exact spec_shape_3 s t tk tn ts tA tm tc bA bc eA ec body els w ht' hb he
  by_cases c4 : k = 4
  · subst c4; exact spec_shape_4 s t tk tn ts tA tm tc bA bc eA ec body els w ht' hb he
  by_cases c5 : k = 5
  · subst c5; exact spec_shape_5 s t tk tn ts tA tm tc bA bc eA ec body els w ht' hb he
  by_cases c6 : k = 6
  · subst c6; exact spec_shape_6 s t tk tn ts tA tm tc bA bc eA ec body els w ht' hb he
  by_cases c7 : k = 7
  · subst c7; exact spec_shape_7 s t tk tn ts tA tm tc bA bc eA ec body els w ht' hb he
  by_cases c8 : k = 8
  · subst c8; exact spec_shape_8 s t tk tn ts tA tm tc bA bc eA ec body els w ht' hb he
  have e0 : shapeB k (isNameL s.data.toList) s.toList.isEmpty (okT 6 t) (sameB t zeroTm) ((body.length : Int) == 0) ((els.length : Int) == 0) = false := by simp [shapeB, c1, c2, c3, c4, c5, c6, c7, c8]
  rw [e0]
  exact spec_shape_no k s t tk tn ts tA tm tc bA bc eA ec body els w ht' hb he (beq_eq_false_iff_ne.2 c1) (beq_eq_false_iff_ne.2 c2) (beq_eq_false_iff_ne.2 c3) (beq_eq_false_iff_ne.2 c4) (beq_eq_false_iff_ne.2 c5) (beq_eq_false_iff_ne.2 c6) (beq_eq_false_iff_ne.2 c7) (beq_eq_false_iff_ne.2 c8)
end Go.Proofs.Ytadcebdhgocmhaa
