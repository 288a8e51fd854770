/- Several texts in one: TermDrw, TermOkLaw. -/
import Derived.Test.YtefcdpkficojgaaDoorKa10
import Derived.Test.YtefcdpkficojgaaDoorKa12
namespace Go.Proofs.YtefcdpkficojgaaDoor
open Go.RowKit
set_option linter.unusedVariables false


/- plain -/
theorem okT_mono {r : Nat} : ∀ {t : Tm}, okT r t = true → okT (r + 1) t = true := by
  induction r with
  | zero =>
    intro t h
    obtain ⟨k, n, s, kids⟩ := t
    by_cases h1 : k = 1
    · subst h1; rw [okT_num] at h ⊢; exact h
    by_cases h2 : k = 2
    · subst h2; rw [okT_var] at h ⊢; exact h
    rw [okT_zero (by simpa using h1) (by simpa using h2)] at h
    cases h
  | succ r ih =>
    intro t h
    obtain ⟨k, n, s, kids⟩ := t
    by_cases h1 : k = 1
    · subst h1; rw [okT_num] at h ⊢; exact h
    by_cases h2 : k = 2
    · subst h2; rw [okT_var] at h ⊢; exact h
    rw [okT_more (by simpa using h1) (by simpa using h2)] at h ⊢
    rw [Bool.and_eq_true] at h ⊢
    refine ⟨h.1, ?_⟩
    rw [List.all_eq_true] at h ⊢
    exact fun x hx => ih (h.2 x hx)
theorem okT_le {r r' : Nat} {t : Tm} (hle : r ≤ r') (h : okT r t = true) : okT r' t = true := by
  induction hle with
  | refl => exact h
  | step _ ih => exact okT_mono ih
theorem empty_name : ByteArray.empty.toList.isEmpty = true := by rw [Lib.toList_data]; rfl
theorem leafD_ok (code : List UInt8) (x : Int) (k : Cur) (r : Nat) : okT r (leafD code x k).1 = true := by
  by_cases h : x < 3
  · rw [leafD_num h, okT_num]
    have hb := belowD_bd code (n := 8) (by decide) k
    have := pickI_in (fun z => inB z 0 1000000000 = true) (zs := tmNums) (x := (belowD code 8 k).1) (by decide) (by show _ < 8; omega)
    rw [this, empty_name]; rfl
  · rw [leafD_var h, okT_var]
    have hb := belowD_bd code (n := 5) (by decide) k
    have := pickS_in (fun z => isNameL z.data.toList = true) (ss := tmNames) (x := (belowD code 5 k).1) (by decide) (by show _ < 5; omega)
    rw [this]; rfl
theorem okT_not {r : Nat} {t : Tm} (h : okT r t = true) : okT (r + 1) (.mk 8 0 ByteArray.empty [t]) = true := by
  rw [okT_more rfl rfl, empty_name]
  simp only [List.all_cons, List.all_nil, h]; rfl
theorem okT_two {r : Nat} {k : Int} {t u : Tm} (hk : k ∈ tmKinds) (h : okT r t = true) (h' : okT r u = true) : okT (r + 1) (.mk k 0 ByteArray.empty [t, u]) = true := by
  have hh : (k == 1) = false ∧ (k == 2) = false ∧ inB k 3 9 = true ∧ ((2 : Int) == manyK k) = true := by
    revert k hk; decide
  rw [okT_more hh.1 hh.2.1]
  have e : ((([t, u] : List Tm).length : Int) == manyK k) = true := hh.2.2.2
  rw [hh.2.2.1, e, empty_name]
  simp only [List.all_cons, List.all_nil, h, h']; rfl
theorem termD_ok (code : List UInt8) (d : Nat) : ∀ k, okT d (termD code d k).1 = true := by
  induction d with
  | zero => intro k; rw [termD_zero]; exact leafD_ok _ _ _ _
  | succ d ih =>
    intro k
    by_cases h6 : (belowD code 12 k).1 < 6
    · rw [termD_leaf h6]; exact leafD_ok _ _ _ _
    by_cases h7 : (belowD code 12 k).1 = 6
    · rw [termD_not h7]; exact okT_not (ih _)
    · rw [termD_two (by omega)]
      have hb := belowD_bd code (n := 6) (by decide) (belowD code 12 k).2
      exact okT_two (pickI_mem (by show _ < 6; omega)) (ih _) (ih _)

theorem spec_TermOk (t : Tm) (k n : Int) (s : ByteArray) (A : Option Addr) (m c : Nat) (w : World) (ht : TmIs AnyB w [.int .i64 k, .int .i64 n, .string s, .slice A m c] t) :
    Calls Tryd.prog 158 #[.agg #[.int .i64 k, .int .i64 n, .string s, .slice A m c]] w fun e w' => e = .returned (.bool (okT 6 t)) ∧ Below w.heap.size w w' := by
  have HT := Lib.hid ht
  clear ht
  go_enter Tryd.func158, Tryd.ntmps158
  go_wp2_with fail
  refine (right_at 6 (by omega) t k n s A m c _ (HT.out.belowA (by repeat' (first | exact Below.refl _ _ | exact Nat.le_refl _ | (refine Below.alloc ?_ ?_ _) | (refine Below.setCell ?_ ?_ _) | (refine Below.drew ?_) | (refine below_drewN ?_ _) | assumption | (simp; done) | (simp; omega))))).mono ?_
  rintro e w1 ⟨rfl, b1⟩
  have B1 : Below w.heap.size w w1 := Below.trans (by repeat' (first | exact Below.refl _ _ | exact Nat.le_refl _ | (refine Below.alloc ?_ ?_ _) | (refine Below.setCell ?_ ?_ _) | (refine Below.drew ?_) | (refine below_drewN ?_ _) | assumption | (simp; done) | (simp; omega))) (b1.mono (by simp))
  have H1 := Lib.hid B1
  clear b1 B1
  go_wp2_with fail
  go_ret
  exact ⟨rfl, H1.out⟩
theorem impl_TermOk (t : Tm) (k n : Int) (s : ByteArray) (A : Option Addr) (m c : Nat) (w : World) (ht : TmIs AnyB w [.int .i64 k, .int .i64 n, .string s, .slice A m c] t) :
    Calls Tryd.prog 101 #[.agg #[.int .i64 k, .int .i64 n, .string s, .slice A m c]] w fun e w' => e = .returned (.bool (okT 6 t)) ∧ Below w.heap.size w w' := by
  have HT := Lib.hid ht
  clear ht
  go_enter Tryd.func101, Tryd.ntmps101
  go_wp2_with fail
  refine (fits_at 6 (by omega) t k n s A m c _ (HT.out.belowA (by repeat' (first | exact Below.refl _ _ | exact Nat.le_refl _ | (refine Below.alloc ?_ ?_ _) | (refine Below.setCell ?_ ?_ _) | (refine Below.drew ?_) | (refine below_drewN ?_ _) | assumption | (simp; done) | (simp; omega))))).mono ?_
  rintro e w1 ⟨rfl, b1⟩
  have B1 : Below w.heap.size w w1 := Below.trans (by repeat' (first | exact Below.refl _ _ | exact Nat.le_refl _ | (refine Below.alloc ?_ ?_ _) | (refine Below.setCell ?_ ?_ _) | (refine Below.drew ?_) | (refine below_drewN ?_ _) | assumption | (simp; done) | (simp; omega))) (b1.mono (by simp))
  have H1 := Lib.hid B1
  clear b1 B1
  go_wp2_with fail
  go_ret
  exact ⟨rfl, H1.out⟩
end Go.Proofs.YtefcdpkficojgaaDoor
