/- Several texts in one: TermDrw, TermOkLaw, Work, Hex. -/
import Derived.Test.YtefcdpkficojgaaDoorKb8
import Derived.Test.YtefcdpkficojgaaDoorKb10
import Derived.Test.YtefcdpkficojgaaDoorKb7
import Derived.Test.YtefcdpkficojgaaDoorKb1
import Derived.StillTailTactics
import Derived.Deep.RegionHeld3
namespace Go.Proofs.YtefcdpkficojgaaDoor
open Go.RowKit
set_option linter.unusedVariables false


/- plain -/
theorem okT_mono {r : Nat} : ∀ {t : Tm}, okT r t = true → okT (r + 1) t = true := by
  induction r with
  | zero =>
    intro t h
    obtain ⟨k, n, s, kids⟩ := t
    by_cases h1 : k = 1
    · subst h1; rw [okT_num] at h ⊢; exact h
    by_cases h2 : k = 2
    · subst h2; rw [okT_var] at h ⊢; exact h
    rw [okT_zero (by simpa using h1) (by simpa using h2)] at h
    cases h
  | succ r ih =>
    intro t h
    obtain ⟨k, n, s, kids⟩ := t
    by_cases h1 : k = 1
    · subst h1; rw [okT_num] at h ⊢; exact h
    by_cases h2 : k = 2
    · subst h2; rw [okT_var] at h ⊢; exact h
    rw [okT_more (by simpa using h1) (by simpa using h2)] at h ⊢
    rw [Bool.and_eq_true] at h ⊢
    refine ⟨h.1, ?_⟩
    rw [List.all_eq_true] at h ⊢
    exact fun x hx => ih (h.2 x hx)
theorem okT_le {r r' : Nat} {t : Tm} (hle : r ≤ r') (h : okT r t = true) : okT r' t = true := by
  induction hle with
  | refl => exact h
  | step _ ih => exact okT_mono ih
theorem empty_name : ByteArray.empty.toList.isEmpty = true := by rw [Lib.toList_data]; rfl
theorem leafD_ok (code : List UInt8) (x : Int) (k : Cur) (r : Nat) : okT r (leafD code x k).1 = true := by
  by_cases h : x < 3
  · rw [leafD_num h, okT_num]
    have hb := belowD_bd code (n := 8) (by decide) k
    have := pickI_in (fun z => inB z 0 1000000000 = true) (zs := tmNums) (x := (belowD code 8 k).1) (by decide) (by show _ < 8; omega)
    rw [this, empty_name]; rfl
  · rw [leafD_var h, okT_var]
    have hb := belowD_bd code (n := 5) (by decide) k
    have := pickS_in (fun z => isNameL z.data.toList = true) (ss := tmNames) (x := (belowD code 5 k).1) (by decide) (by show _ < 5; omega)
    rw [this]; rfl
theorem okT_not {r : Nat} {t : Tm} (h : okT r t = true) : okT (r + 1) (.mk 8 0 ByteArray.empty [t]) = true := by
  rw [okT_more rfl rfl, empty_name]
  simp only [List.all_cons, List.all_nil, h]; rfl
theorem okT_two {r : Nat} {k : Int} {t u : Tm} (hk : k ∈ tmKinds) (h : okT r t = true) (h' : okT r u = true) : okT (r + 1) (.mk k 0 ByteArray.empty [t, u]) = true := by
  have hh : (k == 1) = false ∧ (k == 2) = false ∧ inB k 3 9 = true ∧ ((2 : Int) == manyK k) = true := by
    revert k hk; decide
  rw [okT_more hh.1 hh.2.1]
  have e : ((([t, u] : List Tm).length : Int) == manyK k) = true := hh.2.2.2
  rw [hh.2.2.1, e, empty_name]
  simp only [List.all_cons, List.all_nil, h, h']; rfl
theorem termD_ok (code : List UInt8) (d : Nat) : ∀ k, okT d (termD code d k).1 = true := by
  induction d with
  | zero => intro k; rw [termD_zero]; exact leafD_ok _ _ _ _
  | succ d ih =>
    intro k
    by_cases h6 : (belowD code 12 k).1 < 6
    · rw [termD_leaf h6]; exact leafD_ok _ _ _ _
    by_cases h7 : (belowD code 12 k).1 = 6
    · rw [termD_not h7]; exact okT_not (ih _)
    · rw [termD_two (by omega)]
      have hb := belowD_bd code (n := 6) (by decide) (belowD code 12 k).2
      exact okT_two (pickI_mem (by show _ < 6; omega)) (ih _) (ih _)
set_option maxHeartbeats 800000 in
theorem spec_DrawTerm (A : Option Addr) (c : Nat) (code : List UInt8) (w : World) (rd : Rd w 1 A code.length (bv code)) (hl : code.length ≤ 1048576) (hc : c ≤ maxLen) :
    Calls Tryd.prog 40 #[.slice A code.length c] w (RetT w (termD code 3 (curNew code)).1) := by
  have RD := Lib.hid rd
  clear rd
  go_enter Tryd.func40, Tryd.ntmps40
  go_wp2_with fail
  refine (spec_l01New A c code _ (RD.out.alloc _) hl hc).mono ?_
  rintro e w1 ⟨p, rfl, hp, k1, b1⟩
  have K1 := Lib.hid k1
  have B1 := Lib.hid b1
  have X1 : BoxZ w1 w.heap.size := BoxZ.below ⟨heap_alloc_new _ _⟩ b1
  have HX := Lib.hid X1
  simp only [World.size_alloc] at hp
  have hs1 := b1.size
  simp only [World.size_alloc] at hs1
  clear k1 b1 X1
  go_wp2_with fail
  refine (spec_l03Term 3 (by decide) p A c code (curNew code) _ ((RD.out.alloc _).below B1.out) hl hc K1.out).mono ?_
  rintro e w2 ⟨k2, n2, s2, A2, m2, c2, rfl, t2, q2, kp2⟩
  have T2 := Lib.hid t2
  have BW : Hid (Below w.heap.size w w2) := Lib.hid ((Below.trans (Below.alloc (Below.refl _ _) (Nat.le_refl _) _) (B1.out.mono (by simp))).trans (kp2.below (n := w.heap.size) (by omega) (fun b hb => by omega)))
  obtain ⟨⟨c0, c1, c2', c3⟩, f0, f1, f2, f3⟩ := (HX.out.keep kp2 (by omega)).cells
  clear t2 q2 kp2
  go_wp2_with fail
  refine bodyPost_ret (v := .agg #[.int .i64 k2, .int .i64 n2, .string s2, .slice A2 m2 c2]) (by simp [results, Tryd.results40, go_sem, c0, c1, c2', c3]) rfl ?_
  exact ⟨_, _, _, _, _, _, rfl, (T2.out.put4F (g := w.heap.size) (by omega) 0 (vt _ _ _ _ _ _)).mono (by omega), (((BW.out.setCell (by simp) _).setCell (by simp) _).setCell (by simp) _).setCell (by simp) _⟩

theorem impl_TermOk (t : Tm) (k n : Int) (s : ByteArray) (A : Option Addr) (m c : Nat) (w : World) (ht : TmIs AnyB w [.int .i64 k, .int .i64 n, .string s, .slice A m c] t) :
    Calls Tryd.prog 101 #[.agg #[.int .i64 k, .int .i64 n, .string s, .slice A m c]] w fun e w' => e = .returned (.bool (okT 6 t)) ∧ Below w.heap.size w w' := by
  have HT := Lib.hid ht
  clear ht
  go_enter Tryd.func101, Tryd.ntmps101
  go_wp2_with fail
  refine (fits_at 6 (by omega) t k n s A m c _ (HT.out.belowA (by repeat' (first | exact Below.refl _ _ | exact Nat.le_refl _ | (refine Below.alloc ?_ ?_ _) | (refine Below.setCell ?_ ?_ _) | (refine Below.drew ?_) | (refine below_drewN ?_ _) | assumption | (simp; done) | (simp; omega))))).mono ?_
  rintro e w1 ⟨rfl, b1⟩
  have B1 : Below w.heap.size w w1 := Below.trans (by repeat' (first | exact Below.refl _ _ | exact Nat.le_refl _ | (refine Below.alloc ?_ ?_ _) | (refine Below.setCell ?_ ?_ _) | (refine Below.drew ?_) | (refine below_drewN ?_ _) | assumption | (simp; done) | (simp; omega))) (b1.mono (by simp))
  have H1 := Lib.hid B1
  clear b1 B1
  go_wp2_with fail
  go_ret
  exact ⟨rfl, H1.out⟩

/-- a right term that is no leaf has one kid or two, right ones -/
theorem okT_kids {room : Nat} {k n : Int} {s : ByteArray} {kids : List Tm} (h1 : k ≠ 1) (h2 : k ≠ 2) (h : okT room (.mk k n s kids) = true) :
    ∃ r, room = r + 1 ∧ ((k = 8 ∧ ∃ x, kids = [x] ∧ okT r x = true) ∨ ((k = 3 ∨ k = 4 ∨ k = 5 ∨ k = 6 ∨ k = 7 ∨ k = 9) ∧ ∃ x y, kids = [x, y] ∧ okT r x = true ∧ okT r y = true)) := by
  have g1 : (k == 1) = false := beq_eq_false_iff_ne.2 h1
  have g2 : (k == 2) = false := beq_eq_false_iff_ne.2 h2
  cases room with
  | zero => rw [okT_zero g1 g2] at h; cases h
  | succ r =>
    rw [okT_more g1 g2] at h
    simp only [Bool.and_eq_true, beq_iff_eq] at h
    obtain ⟨⟨⟨⟨a1, a2⟩, a3⟩, a4⟩, a5⟩ := h
    have := inB_le a1
    refine ⟨r, rfl, ?_⟩
    by_cases e : k = 8
    · subst e
      simp only [manyK, if_true] at a4
      match kids, a4 with
      | [x], _ => exact .inl ⟨rfl, x, rfl, by simpa using a5⟩
    · rw [manyK, if_neg e] at a4
      match kids, a4 with
      | [x, y], _ => exact .inr ⟨by omega, x, y, rfl, by simpa using a5⟩

theorem u8T : ElemT Tryd.prog 40 5 1 1 := ElemT.mk' (z := .int .u8 0) Tryd.underlying40 (by kernel_rfl) rfl (by decide)
end Go.Proofs.YtefcdpkficojgaaDoor
