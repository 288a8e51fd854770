/- What belongs together in a graph, in bits. -/
import Derived.Test.YtfnjllaaadhbbaaComps
namespace Go.Proofs.Ytfnjllaaadhbbaa
open Go.RowKit
set_option linter.unusedVariables false

/-- m tells T below n in its bits -/
def BitsOf (n m : Nat) (T : Nat → Bool) : Prop := (∀ j, j < n → m.testBit j = T j) ∧ ∀ j, n ≤ j → m.testBit j = false
theorem BitsOf.lt {n m : Nat} {T : Nat → Bool} (h : BitsOf n m T) (hn : n ≤ 60) : m < M64 := by
  have h1 : m < 2 ^ n := Nat.lt_pow_two_of_testBit _ h.2
  have h2 : 2 ^ n ≤ 2 ^ 60 := Nat.pow_le_pow_right (by decide) hn
  unfold M64; omega
theorem BitsOf.zero (n : Nat) : BitsOf n 0 (fun _ => false) := ⟨fun j _ => by simp, fun j _ => by simp⟩
theorem BitsOf.congr {n m : Nat} {T T' : Nat → Bool} (h : BitsOf n m T) (he : ∀ j, j < n → T j = T' j) : BitsOf n m T' := ⟨fun j hj => (h.1 j hj).trans (he j hj), h.2⟩
theorem BitsOf.or {n a b : Nat} {S T : Nat → Bool} (h : BitsOf n a S) (k : BitsOf n b T) : BitsOf n (a ||| b) (fun j => S j || T j) :=
  ⟨fun j hj => by rw [Nat.testBit_or, h.1 j hj, k.1 j hj], fun j hj => by rw [Nat.testBit_or, h.2 j hj, k.2 j hj]; rfl⟩
theorem BitsOf.one {n i : Nat} (h : i < n) : BitsOf n (2 ^ i) (fun j => decide (j = i)) :=
  ⟨fun j hj => by rw [Nat.testBit_two_pow]; simp [eq_comm], fun j hj => by rw [Nat.testBit_two_pow]; simp; omega⟩
/-- the part so far: i, and what leads both ways below q -/
def partA (W : Rel) (i q : Nat) : Nat → Bool := fun j => decide (j = i) || (decide (j < q) && (W i j && W j i))
theorem partA_zero {n i : Nat} (W : Rel) (h : i < n) : BitsOf n (2 ^ i) (partA W i 0) := (BitsOf.one h).congr fun j _ => by simp [partA]
theorem partA_yes {n m i q : Nat} {W : Rel} (h : BitsOf n m (partA W i q)) (hq : q < n) (h1 : W i q = true) (h2 : W q i = true) : BitsOf n (m ||| 2 ^ q) (partA W i (q + 1)) := by
  refine (h.or (BitsOf.one hq)).congr fun j hj => ?_
  unfold partA
  by_cases e : j = q
  · subst e; rw [h1, h2]; simp
  · have : decide (j < q + 1) = decide (j < q) := by rw [Bool.eq_iff_iff, decide_eq_true_eq, decide_eq_true_eq]; omega
    rw [this, decide_eq_false e, Bool.or_false]
theorem partA_no {n m i q : Nat} {W : Rel} (h : BitsOf n m (partA W i q)) (hw : (W i q && W q i) = false) : BitsOf n m (partA W i (q + 1)) := by
  refine h.congr fun j hj => ?_
  unfold partA
  by_cases e : j = q
  · subst e; rw [hw]; simp
  · have : decide (j < q + 1) = decide (j < q) := by rw [Bool.eq_iff_iff, decide_eq_true_eq, decide_eq_true_eq]; omega
    rw [this]
theorem partA_all {n m i : Nat} {W : Rel} (h : BitsOf n m (partA W i n)) : BitsOf n m (inPart W i) := by
  refine h.congr fun j hj => ?_
  unfold partA inPart
  rw [decide_eq_true hj, Bool.true_and]
theorem told_bits {n d m i : Nat} {W : Rel} {T : Nat → Bool} (h : BitsOf n d T) (k : BitsOf n m (inPart W i)) : BitsOf n (d ||| m) (toldN W T i) := h.or k
theorem andNot_of {a b : Nat} (ha : a < M64) (hb : b < M64) : bits .andNot .u64 (a : Int) (b : Int) = ((a &&& (18446744073709551615 - b) : Nat) : Int) := u64_andNot_nat a b ha hb
theorem andNot_lt {a b : Nat} (ha : a < M64) : a &&& (18446744073709551615 - b) < M64 := Nat.lt_of_le_of_lt Nat.and_le_left ha
theorem andNot_bit {a b : Nat} (hb : b < M64) (ha : a < M64) (j : Nat) : (a &&& (18446744073709551615 - b)).testBit j = (a.testBit j && !b.testBit j) := by
  have h1 : 18446744073709551615 - b = 2 ^ 64 - (b + 1) := by omega
  rw [Nat.testBit_and, h1, Nat.testBit_two_pow_sub_succ (by unfold M64 at hb; omega)]
  by_cases hj : j < 64
  · rw [decide_eq_true hj, Bool.true_and]
  · have : a.testBit j = false := Nat.testBit_lt_two_pow (Nat.lt_of_lt_of_le ha (by unfold M64; exact Nat.le_trans (by decide : 18446744073709551616 ≤ 2 ^ 64) (Nat.pow_le_pow_right (by decide) (by omega))))
    rw [this]; rfl
theorem ready_bits {n r m d i : Nat} {W : Rel} {T : Nat → Bool} (hn : n ≤ 60) (hR : InR n W) (hr : r < M64) (hb : ∀ j, r.testBit j = W i j) (hm : BitsOf n m (inPart W i)) (hd : BitsOf n d T) (hT : T i = false) :
    (bits .andNot .u64 (bits .andNot .u64 (r : Int) (m : Int)) (d : Int) == 0) = readyB n W T i := by
  rw [andNot_of hr (hm.lt hn), andNot_of (andNot_lt hr) (hd.lt hn)]
  have hbit : ∀ j, ((r &&& (18446744073709551615 - m)) &&& (18446744073709551615 - d)).testBit j = (W i j && !m.testBit j && !d.testBit j) := by
    intro j
    rw [andNot_bit (hd.lt hn) (andNot_lt hr), andNot_bit (hm.lt hn) hr, hb j]
  generalize (r &&& (18446744073709551615 - m)) &&& (18446744073709551615 - d) = x at *
  have key : ∀ j, j < n → readyJ W T i j = !x.testBit j := by
    intro j hj
    rw [hbit j, hm.1 j hj, hd.1 j hj]
    unfold readyJ inPart
    by_cases e : j = i
    · subst e; cases W j j <;> simp
    · rw [decide_eq_false e]; cases W i j <;> cases W j i <;> cases T j <;> rfl
  rw [Bool.eq_iff_iff, beq_iff_eq]
  constructor
  · intro h0
    have hx : x = 0 := by omega
    unfold readyB
    rw [hT, Bool.not_false, Bool.true_and, List.all_eq_true]
    intro j hj
    rw [key j (by simpa using hj), hx]; simp
  · intro h1
    have h2 := (ready_told h1).2
    have hx : x = 0 := by
      apply Nat.eq_of_testBit_eq
      intro j
      rw [Nat.zero_testBit]
      by_cases hj : j < n
      · have := h2 j hj
        rw [key j hj] at this
        simpa using this
      · rw [hbit j]
        cases hw : W i j with
        | false => rfl
        | true => have := (hR i j hw).2; omega
    rw [hx]; rfl
theorem ready_no_told {n : Nat} {W : Rel} {T : Nat → Bool} {i : Nat} (h : T i = true) : readyB n W T i = false := by unfold readyB; rw [h]; rfl
end Go.Proofs.Ytfnjllaaadhbbaa
