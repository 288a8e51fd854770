/- What leads where: the plain law of the closure, and the program's closure in rows of bits. -/
import Derived.Test.YtfnjllaaadhbbaaArcs
import Derived.Laws.BitsAllLaws
namespace Go.Proofs.Ytfnjllaaadhbbaa
open Go.RowKit
set_option linter.unusedVariables false

abbrev Rel := Nat → Nat → Bool
def arcR (ars : List Arc2) : Rel := fun i j => ars.any fun a => decide (a.1 = (i : Int)) && decide (a.2 = (j : Int))
def stepR (R : Rel) (k : Nat) : Rel := fun i j => R i j || (R i k && R k j)
def warsh (R : Rel) : Nat → Rel
  | 0 => R
  | k + 1 => stepR (warsh R k) k
/-- rows below i have had their step -/
def mixR (R : Rel) (k i : Nat) : Rel := fun a b => if a < i then stepR R k a b else R a b
theorem mixR_zero (R : Rel) (k : Nat) : mixR R k 0 = R := by funext a b; simp [mixR]
theorem mixR_all {R : Rel} {k n a : Nat} (h : a < n) (b : Nat) : mixR R k n a b = stepR R k a b := by simp [mixR, h]
theorem mixR_at (R : Rel) (k i b : Nat) : mixR R k i i b = R i b := by simp [mixR]
theorem mixR_row (R : Rel) (k i b : Nat) : mixR R k i k b = R k b := by
  unfold mixR stepR
  by_cases h : k < i
  · rw [if_pos h]; cases R k b <;> simp
  · rw [if_neg h]
theorem mixR_succ (R : Rel) (k i a b : Nat) : mixR R k (i + 1) a b = if a = i then stepR R k a b else mixR R k i a b := by
  unfold mixR
  by_cases h : a = i
  · subst h; simp
  · rw [if_neg h]
    by_cases h2 : a < i
    · rw [if_pos h2, if_pos (by omega)]
    · rw [if_neg h2, if_neg (by omega)]
/-- all that R says stays below n -/
def InR (n : Nat) (R : Rel) : Prop := ∀ i j, R i j = true → i < n ∧ j < n
theorem InR.step {n : Nat} {R : Rel} (h : InR n R) (k : Nat) : InR n (stepR R k) := by
  intro i j hij
  unfold stepR at hij
  rw [Bool.or_eq_true, Bool.and_eq_true] at hij
  rcases hij with h1 | ⟨h1, h2⟩
  · exact h i j h1
  · exact ⟨(h i k h1).1, (h k j h2).2⟩
theorem InR.warsh {n : Nat} {R : Rel} (h : InR n R) (k : Nat) : InR n (warsh R k) := by
  induction k with
  | zero => exact h
  | succ k ih => exact ih.step k
theorem InR.mix {n : Nat} {R : Rel} (h : InR n R) (k i : Nat) : InR n (mixR R k i) := by
  intro a b hab
  unfold mixR at hab
  split at hab
  · exact h.step k a b hab
  · exact h a b hab
theorem inR_arcs {n : Int} {ars : List Arc2} (h : ars.all (arcOk n) = true) : InR n.toNat (arcR ars) := by
  intro i j hij
  unfold arcR at hij
  rw [List.any_eq_true] at hij
  obtain ⟨a, ha, hb⟩ := hij
  rw [Bool.and_eq_true, decide_eq_true_eq, decide_eq_true_eq] at hb
  have := List.all_eq_true.1 h a ha
  unfold arcOk at this
  rw [Bool.and_eq_true] at this
  have h1 := inB_le this.1
  have h2 := inB_le this.2
  omega
theorem arcR_nil : arcR [] = fun _ _ => false := by funext i j; rfl
theorem arcR_take {ars : List Arc2} {k : Nat} (h : k < ars.length) (i j : Nat) : arcR (ars.take (k + 1)) i j = (arcR (ars.take k) i j || (decide (ars[k].1 = (i : Int)) && decide (ars[k].2 = (j : Int)))) := by
  have e1 : ars.take (k + 1) = ars.take k ++ [ars[k]] := List.take_succ_eq_append_getElem h
  unfold arcR
  rw [e1, List.any_append]
  simp
theorem InR.mono_take {n : Nat} {ars : List Arc2} (h : InR n (arcR ars)) (k : Nat) : InR n (arcR (ars.take k)) := by
  intro i j hij
  refine h i j ?_
  unfold arcR at hij ⊢
  rw [List.any_eq_true] at hij ⊢
  obtain ⟨a, ha, hb⟩ := hij
  exact ⟨a, List.mem_of_mem_take ha, hb⟩
/-- rows of bits that say R -/
def Bits (R : Rel) (rows : List Nat) : Prop := ∀ i (h : i < rows.length) j, rows[i].testBit j = R i j
def M64 : Nat := 18446744073709551616
theorem bits_lt {n : Nat} {R : Rel} {rows : List Nat} (hb : Bits R rows) (hR : InR n R) (hn : n ≤ 60) {i : Nat} (h : i < rows.length) : rows[i] < M64 := by
  have : rows[i] < 2 ^ 60 := Nat.lt_pow_two_of_testBit _ fun j hj => by
    rw [hb i h j]
    cases e : R i j with
    | false => rfl
    | true => have := (hR i j e).2; omega
  unfold M64
  omega
theorem Bits.set {R R' : Rel} {rows : List Nat} (hb : Bits R rows) {i m : Nat} (h : i < rows.length) (hm : ∀ j, m.testBit j = R' i j) (ho : ∀ a, a ≠ i → ∀ j, R' a j = R a j) : Bits R' (rows.set i m) := by
  intro a ha j
  rw [List.length_set] at ha
  rw [List.getElem_set]
  by_cases e : i = a
  · subst e; rw [if_pos rfl]; exact hm j
  · rw [if_neg e, hb a ha j, ho a (fun e' => e e'.symm)]
theorem two_pow_lt {j : Nat} (h : j < 60) : 2 ^ j < M64 := by
  have : 2 ^ j < 2 ^ 60 := Nat.pow_lt_pow_right (by decide) h
  unfold M64; omega
theorem or_lt {a b : Nat} (ha : a < M64) (hb : b < M64) : a ||| b < M64 := by
  have : a ||| b < 2 ^ 64 := Nat.or_lt_two_pow (by unfold M64 at ha; omega) (by unfold M64 at hb; omega)
  unfold M64; omega
theorem shl_one {j : Nat} (h : j < 60) : IntKind.u64.wrap (2 ^ (min j 64)) = ((2 ^ j : Nat) : Int) := by
  have h2 : (min j 64) = j := by omega
  rw [h2, IntKind.wrap_u64]
  have h1 := two_pow_lt h
  unfold M64 at h1
  have h3 : (2 : Int) ^ j = ((2 ^ j : Nat) : Int) := by push_cast; rfl
  rw [h3]
  generalize 2 ^ j = x at *
  omega
theorem or_of {a b : Nat} (ha : a < M64) (hb : b < M64) : bits .or .u64 (a : Int) (b : Int) = ((a ||| b : Nat) : Int) := u64_or_nat a b ha hb
theorem test_of {a k : Nat} (ha : a < M64) (hk : k < 60) : (bits .and .u64 ((a : Int) / 2 ^ (min k 64)) 1 == 1) = a.testBit k := by
  have h2 : (min k 64) = k := by omega
  rw [h2]
  have h3 : ((a : Int) / 2 ^ k) = ((a / 2 ^ k : Nat) : Int) := by push_cast; rfl
  have h4 : a / 2 ^ k < M64 := Nat.lt_of_le_of_lt (Nat.div_le_self _ _) ha
  rw [h3, show (1 : Int) = ((1 : Nat) : Int) from rfl, u64_and_nat _ _ h4 (by decide), nat_mask1]
  rw [Nat.testBit_eq_decide_div_mod_eq, Bool.eq_iff_iff, beq_iff_eq, decide_eq_true_eq]
  omega
theorem u64T : ElemT Try.prog 52 51 1 8 := ElemT.mk' (z := .int .u64 0) Try.underlying52 (by kernel_rfl) rfl (by decide)
theorem u64Z : (Try.prog.info? 51).map (fun i => i.zero) = some (some (.int .u64 0)) := by kernel_rfl
def u64V (m : Nat) : Value := .int .u64 (m : Int)
end Go.Proofs.Ytfnjllaaadhbbaa
