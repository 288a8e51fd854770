/- Several texts in one: StDrT, Words, LexP, LexQ, DecFacts. -/
import Derived.Test.YtefcdpkficojgaaDoorKb27
import Derived.Test.YtefcdpkficojgaaDoorKb21
import Derived.Test.YtefcdpkficojgaaDoorKb33
import Derived.Test.YtefcdpkficojgaaDoorKb1
import Derived.Test.YtefcdpkficojgaaDoorKb30
import Derived.Test.YtefcdpkficojgaaDoorKb9
namespace Go.Proofs.YtefcdpkficojgaaDoor
open Go.RowKit
set_option linter.unusedVariables false


theorem okGs_of {l : List St} (h : rightGs 6 l = true) (hn : snodess l ≤ 60) : okGs l = true := by
  have key : ∀ l : List St, rightGs 6 l = true → snodess l ≤ 60 → okGs l = true := by
    intro l
    induction l with
    | nil => intro _ _; rw [okGs]
    | cons g r ih =>
      intro h hn
      rw [rightGs, Bool.and_eq_true] at h
      rw [snodess] at hn
      rw [okGs, ih h.2 (by omega), fit_yes (by rw [rightGs, rightGs, h.1]; rfl) (by rw [snodess, snodess]; omega)]; rfl
  exact key l h hn
theorem drawn_txt (code : List UInt8) (n : Nat) (hn : n ≤ 20) : textR (drawnS code) (n : Int) = txtGs n (drawnS code) :=
  textR_yes hn (okGs_of (rightGs_le _ (by omega) (drawn_right code)) (drawn_many code))
set_option maxHeartbeats 1600000 in
theorem spec_DrawStmts (A : Option Addr) (c : Nat) (code : List UInt8) (w : World) (rd : Rd w 1 A code.length (bv code)) (hl : code.length ≤ 1048576) (hc : c ≤ maxLen) :
    Calls Tryd.prog 23 #[.slice A code.length c] w (RetGsO w (drawnS code)) := by
  have RD := Lib.hid rd
  clear rd
  go_enter Tryd.func23, Tryd.ntmps23
  go_wp2_with fail
  refine (spec_l01New A c code _ RD.out hl hc).mono ?_
  rintro e w1 ⟨p, rfl, hp, k1, b1⟩
  have K1 := Lib.hid k1
  have B1 := Lib.hid b1
  have hpl := lt_of_block k1.at'
  clear k1 b1
  go_wp2_with fail
  refine (spec_l04List 3 (by decide) p A c code (curNew code) _ (RD.out.below B1.out) hl hc K1.out).mono ?_
  rintro e w2 ⟨A2, c2, rfl, hl2, hc2, row2, k2, kp2⟩
  have R2 := Lib.hid row2
  have BW : Hid (Below w.heap.size w w2) := Lib.hid (B1.out.trans (kp2.below (n := w.heap.size) (by have := B1.out.size; omega) (fun b hb => by omega)))
  have MW : Hid (∀ b, Made w1 w2 b → Made w w2 b) := Lib.hid fun b hb => ⟨by have := hb.1; have := B1.out.size; omega, hb.2⟩
  clear row2 k2 kp2
  have hll := lstS_len (code := code) (one := stS code 3) (curNew code)
  have D1 : Hid (snodess (lstS code (stS code 3) (curNew code)).1 ≤ 60 → drawnS code = (lstS code (stS code 3) (curNew code)).1) := Lib.hid fun h => by unfold drawnS; rw [if_pos h]
  have D2 : Hid (¬ snodess (lstS code (stS code 3) (curNew code)).1 ≤ 60 → drawnS code = [skipS]) := Lib.hid fun h => by unfold drawnS; rw [if_neg h]
  generalize (lstS code (stS code 3) (curNew code)).1 = l at *
  go_wp2_with fail
  refine (spec_l04Count l A2 c2 60 _ R2.out.any hl2 hc2 (by omega) (by omega)).mono ?_
  rintro e w3 ⟨rfl, q3⟩
  have Q3 := Lib.hid q3.below
  clear q3
  by_cases h : snodess l ≤ 60
  · have HC := Lib.hid (cut0_pos (n := (60 : Int) - (snodess l : Int)) (by omega))
    have hn : ¬ ((60 : Int) - (snodess l : Int) < 0) := by omega
    rw [HC.out]
    go_wp2_with fail
    go_ret
    rw [D1.out h]
    exact ⟨A2, c2, rfl, hl2, hc2, (R2.out.belowO (fun b hb => hb.2) Q3.out).sub (fun b hb => ⟨(MW.out b hb).1, by have := (MW.out b hb).2; have := Q3.out.size; omega⟩), below_then BW.out Q3.out⟩
  · have HC := Lib.hid (cut0_neg (n := (60 : Int) - (snodess l : Int)) (by omega))
    rw [HC.out]
    go_wp2_with fail
    go_ret
    rw [D2.out h]
    have hN := heap_alloc_new w3 (.cells #[.int .i64 8, .string ⟨#[]⟩, .int .i64 0, .int .i64 0, .string ⟨#[]⟩, .slice none 0 0, .slice none 0 0, .slice none 0 0] 104)
    have b03 := below_then BW.out Q3.out
    refine ⟨some ⟨w3.heap.size, 0, none⟩, 1, rfl, Nat.le_refl _, by simp [maxLen], stRowO_of (xs := [⟨8, ⟨#[]⟩, 0, 0, ⟨#[]⟩, none, 0, 0, none, 0, 0, none, 0, 0⟩]) (G := fun _ _ => False) rfl ⟨Rd.new w3 8 1 #[.int .i64 8, .string ⟨#[]⟩, .int .i64 0, .int .i64 0, .string ⟨#[]⟩, .slice none 0 0, .slice none 0 0, .slice none 0 0] 104 rfl, fun _ => ⟨w3.heap.size, 0, _, _, rfl, ⟨b03.size, by simp⟩, hN, fun _ _ h => h⟩, fun _ _ _ h => h.elim, fun _ _ _ _ _ _ h => h.elim⟩ (fun i hi hi' => ?_), b03.alloc b03.size _⟩
    have h0 : i = 0 := by simp at hi; omega
    subst h0
    exact stO_flat (T := fun _ => False) (by unfold i64in; omega) (Nat.zero_le _) zeroO (fun _ h => h)

/-- one of the marks -/
def isMarkL (l : List UInt8) : Bool :=
  l == [123] || l == [125] || l == [40] || l == [41] || l == [59] || l == [44] || l == [61] || l == [61, 61] || l == [60] || l == [43] || l == [45] || l == [42]
set_option maxHeartbeats 400000 in
theorem impl_IsMark (s : ByteArray) (w : World) :
    Calls Tryd.prog 216 #[.string s] w fun e w' => e = .returned (.bool (isMarkL s.toList)) ∧ w = w' := by
  go_enter Tryd.func216, Tryd.ntmps216
  go_wp2
  all_goals go_ret
  all_goals exact ⟨by simp_all [isMarkL], rfl⟩

structure Sg where
  k : Int
  t : ByteArray
  p : Nat
def okAt (s : ByteArray) (i : Nat) : Bool := if h : i < s.size then okC s[i] else false
/-- where a run of letters and figures ends -/
def runE (s : ByteArray) (i : Nat) : Nat := if okAt s i = true then runE s (i + 1) else i
termination_by s.size - i
decreasing_by
  have : i < s.size := by
    rename_i h
    unfold okAt at h
    split at h
    · assumption
    · cases h
  omega
theorem runE_yes {s : ByteArray} {i : Nat} (h : okAt s i = true) : runE s i = runE s (i + 1) := by rw [runE, if_pos h]
theorem runE_no {s : ByteArray} {i : Nat} (h : okAt s i = false) : runE s i = i := by rw [runE, if_neg (by rw [h]; decide)]
theorem okAt_lt {s : ByteArray} {i : Nat} (h : i < s.size) : okAt s i = okC s[i] := by unfold okAt; rw [dif_pos h]
theorem okAt_ge {s : ByteArray} {i : Nat} (h : ¬ i < s.size) : okAt s i = false := by unfold okAt; rw [dif_neg h]
theorem runE_ge (s : ByteArray) (n : Nat) : ∀ i, s.size - i ≤ n → i ≤ runE s i := by
  induction n with
  | zero => intro i h; rw [runE_no (okAt_ge (by omega))]; omega
  | succ n ih =>
    intro i h
    cases e : okAt s i with
    | false => rw [runE_no e]; omega
    | true => rw [runE_yes e]; have := ih (i + 1) (by omega); omega
theorem runE_le (s : ByteArray) (n : Nat) : ∀ i, s.size - i ≤ n → i ≤ s.size → runE s i ≤ s.size := by
  induction n with
  | zero => intro i h h2; rw [runE_no (okAt_ge (by omega))]; omega
  | succ n ih =>
    intro i h h2
    cases e : okAt s i with
    | false => rw [runE_no e]; omega
    | true =>
      rw [runE_yes e]
      by_cases h3 : i < s.size
      · exact ih (i + 1) (by omega) (by omega)
      · rw [okAt_ge h3] at e; cases e
theorem runE_bd {s : ByteArray} {i : Nat} (h : i < s.size) (e : okAt s i = true) : i + 1 ≤ runE s i ∧ runE s i ≤ s.size := by
  rw [runE_yes e]
  exact ⟨runE_ge s _ (i + 1) (Nat.le_refl _), runE_le s _ (i + 1) (Nat.le_refl _) (by omega)⟩
def markB (s : ByteArray) : Bool := isMarkL s.toList
def eqTwo (s : ByteArray) (i : Nat) : Bool := if h : i + 1 < s.size then decide (s[i].toNat = 61) && decide (s[i + 1].toNat = 61) else false
/-- the sign at a byte that is no blank: its kind, where it ends, whether it is one -/
def signP (s : ByteArray) (i : Nat) (h : i < s.size) : Int × Nat × Bool :=
  if smallB (s[i].toNat : Int) = true then (1, runE s i, decide (runE s i - i ≤ 12))
  else if figB (s[i].toNat : Int) = true then (2, runE s i, (readD (s.extract i (runE s i))).2)
  else (3, if eqTwo s i = true then i + 2 else i + 1, markB (s.extract i (if eqTwo s i = true then i + 2 else i + 1)))
theorem okC_or (c : UInt8) : okC c = (smallB (c.toNat : Int) || figB (c.toNat : Int)) := rfl
theorem signP_bd (s : ByteArray) (i : Nat) (h : i < s.size) : i + 1 ≤ (signP s i h).2.1 ∧ (signP s i h).2.1 ≤ s.size := by
  unfold signP
  by_cases c1 : smallB (s[i].toNat : Int) = true
  · rw [if_pos c1]
    exact runE_bd h (by rw [okAt_lt h, okC_or, c1]; rfl)
  rw [if_neg c1]
  by_cases c2 : figB (s[i].toNat : Int) = true
  · rw [if_pos c2]
    exact runE_bd h (by rw [okAt_lt h, okC_or, c2]; simp)
  rw [if_neg c2]
  simp only
  split
  · rename_i e
    unfold eqTwo at e
    split at e
    · omega
    · cases e
  · omega
def blankB (c : UInt8) : Bool := decide (c.toNat = 32) || decide (c.toNat = 9) || decide (c.toNat = 10) || decide (c.toNat = 13)
/-- from a byte on: the signs, and the fault -/
def lexS (s : ByteArray) (i : Nat) (acc : List Sg) : List Sg × Int × Int :=
  if h : i < s.size then
    if blankB s[i] = true then lexS s (i + 1) acc
    else if (signP s i h).2.2 = true then lexS s (signP s i h).2.1 (acc ++ [⟨(signP s i h).1, s.extract i (signP s i h).2.1, i⟩])
    else ([], 2, (i : Int))
  else (acc, 0, 0)
termination_by s.size - i
decreasing_by
  · omega
  · have := signP_bd s i h; omega
theorem lexS_end {s : ByteArray} {i : Nat} {acc : List Sg} (h : ¬ i < s.size) : lexS s i acc = (acc, 0, 0) := by rw [lexS, dif_neg h]
theorem lexS_blank {s : ByteArray} {i : Nat} {acc : List Sg} (h : i < s.size) (hb : blankB s[i] = true) : lexS s i acc = lexS s (i + 1) acc := by rw [lexS, dif_pos h, if_pos hb]
theorem lexS_sign {s : ByteArray} {i : Nat} {acc : List Sg} (h : i < s.size) (hb : blankB s[i] = false) (ho : (signP s i h).2.2 = true) : lexS s i acc = lexS s (signP s i h).2.1 (acc ++ [⟨(signP s i h).1, s.extract i (signP s i h).2.1, i⟩]) := by
  rw [lexS, dif_pos h, if_neg (by rw [hb]; decide), if_pos ho]
theorem lexS_bad {s : ByteArray} {i : Nat} {acc : List Sg} (h : i < s.size) (hb : blankB s[i] = false) (ho : (signP s i h).2.2 = false) : lexS s i acc = ([], 2, (i : Int)) := by
  rw [lexS, dif_pos h, if_neg (by rw [hb]; decide), if_neg (by rw [ho]; decide)]
def lexR (s : ByteArray) : List Sg × Int × Int := if 6000 < s.size then ([], 1, 0) else lexS s 0 []
theorem lexR_long {s : ByteArray} (h : 6000 < s.size) : lexR s = ([], 1, 0) := by unfold lexR; rw [if_pos h]
theorem lexR_short {s : ByteArray} (h : ¬ 6000 < s.size) : lexR s = lexS s 0 [] := by unfold lexR; rw [if_neg h]

theorem ext_list (s : ByteArray) (i e : Nat) : (s.extract i e).data.toList = (s.data.toList.drop i).take (e - i) := by
  rw [ByteArray.data_extract, Array.toList_extract]

theorem dec_dig {x : Nat} (h : x < 10) : (UInt8.ofNat (48 + x)).toNat = 48 + x := by rw [UInt8.toNat_ofNat']; omega
theorem dec_facts (u : Nat) : valL (Lib.decDigits u) = u ∧ (Lib.decDigits u).all isDig = true := by
  induction u using Nat.strongRecOn with
  | ind u ih =>
    rw [Lib.decDigits]
    by_cases h : u < 10
    · rw [dif_pos h]
      have e := dec_dig h
      refine ⟨?_, ?_⟩
      · simp only [valL, List.foldl_cons, List.foldl_nil, e]; omega
      · simp only [List.all_cons, List.all_nil, isDig, e, Bool.and_true]
        rw [decide_eq_true (by omega), decide_eq_true (by omega)]; rfl
    · rw [dif_neg h]
      obtain ⟨h1, h2⟩ := ih (u / 10) (by omega)
      have e := dec_dig (x := u % 10) (by omega)
      refine ⟨?_, ?_⟩
      · rw [valL_snoc, h1, e]; omega
      · rw [List.all_append, h2]
        simp only [List.all_cons, List.all_nil, isDig, e, Bool.and_true, Bool.true_and]
        rw [decide_eq_true (by omega), decide_eq_true (by omega)]; rfl
theorem dec_len (k : Nat) : ∀ u, u < 10 ^ (k + 1) → (Lib.decDigits u).length ≤ k + 1 := by
  induction k with
  | zero => intro u h; rw [Lib.decDigits, dif_pos (by simpa using h)]; simp
  | succ k ih =>
    intro u h
    rw [Lib.decDigits]
    by_cases h1 : u < 10
    · rw [dif_pos h1]; simp
    · rw [dif_neg h1, List.length_append]
      have := ih (u / 10) (by rw [Nat.pow_succ] at h; omega)
      simp only [List.length_cons, List.length_nil]; omega
theorem read_itoa {n : Int} (h0 : 0 ≤ n) (h1 : n ≤ 1000000000) : readD ⟨(Lib.itoa n).toArray⟩ = (n, true) := by
  obtain ⟨u, rfl⟩ := Int.eq_ofNat_of_zero_le h0
  have e : Lib.itoa (u : Int) = Lib.decDigits u := by
    unfold Lib.itoa; rw [if_neg (by omega)]; simp
  obtain ⟨f1, f2⟩ := dec_facts u
  have f3 := dec_len 9 u (by omega)
  rw [e]
  have f4 : valL (⟨(Lib.decDigits u).toArray⟩ : ByteArray).data.toList = u := f1
  rw [readD_yes (by rw [str_size]; omega) f2 (by rw [f4]; omega) (by rw [f4, e]), f4]
end Go.Proofs.YtefcdpkficojgaaDoor
