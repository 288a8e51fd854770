/- The plain law of codes: what it is that the entries, the ends and the instructions of a code are right, in the reference's way and in the program's; both are the same. No program is in sight here. -/
import Derived.WalkKit
namespace Go.Proofs.YtefcdpkficojgaaDoor
set_option linter.unusedVariables false

/-- the place behind procedure i -/
def finE (es : List Int) (n : Nat) (i : Nat) : Int := es.getD (i + 1) (n : Int)
/-- the last procedure, of the first m, that begins at the place or ahead of it -/
def procE (es : List Int) (at' : Int) : Nat → Int
  | 0 => -1
  | i + 1 => if es.getD i 0 ≤ at' then (i : Int) else procE es at' i
/-- the entries and the ends are right -/
structure EntOk (es ops : List Int) : Prop where
  zero : es.getD 0 1 = 0
  rise : ∀ i, i < es.length → es.getD i 0 < finE es ops.length i
  top : ∀ i, i < es.length → finE es ops.length i ≤ (ops.length : Int)
  last : ∀ i, i < es.length → ops.getD (finE es ops.length i - 1).toNat 0 = 9
  mid : ∀ i j : Nat, i < es.length → es.getD i 0 ≤ (j : Int) → (j : Int) < finE es ops.length i - 1 → ops.getD j 0 ≠ 9
/-- the program's way: as many ends as entries -/
structure EntI (es ops : List Int) : Prop where
  zero : es.getD 0 1 = 0
  count : ops.countP (fun o => o == 9) = es.length
  rise : ∀ i, i < es.length → es.getD i 0 < finE es ops.length i
  top : ∀ i, i < es.length → finE es ops.length i ≤ (ops.length : Int)
  last : ∀ i, i < es.length → ops.getD (finE es ops.length i - 1).toNat 0 = 9
/-- the place of the end of a procedure, as the reference reckons it -/
def endE (es : List Int) (n : Nat) (p : Int) : Int := if p + 1 < (es.length : Int) then es.getD (p + 1).toNat 0 - 1 else (n : Int) - 1
/-- the reference's way: the end of each place's procedure -/
structure EntS (es ops : List Int) : Prop where
  rise : ∀ i, i < es.length → (i = 0 → es.getD 0 1 = 0) ∧ (0 < i → es.getD (i - 1) 0 < es.getD i 0) ∧ es.getD i 0 < (ops.length : Int)
  ends : ∀ j, j < ops.length → (ops.getD j 0 == 9) = (endE es ops.length (procE es j es.length) == (j : Int))

theorem finE_in {es : List Int} {n i : Nat} (h : i + 1 < es.length) : finE es n i = es.getD (i + 1) 0 := by
  unfold finE; rw [List.getD_eq_getElem?_getD, List.getD_eq_getElem?_getD, List.getElem?_eq_getElem h]; rfl
theorem finE_out {es : List Int} {n i : Nat} (h : es.length ≤ i + 1) : finE es n i = (n : Int) := by
  unfold finE; rw [List.getD_eq_getElem?_getD, List.getElem?_eq_none h]; rfl
theorem endE_fin {es : List Int} {n i : Nat} : endE es n (i : Int) = finE es n i - 1 := by
  unfold endE
  by_cases h : i + 1 < es.length
  · rw [if_pos (by omega), finE_in h, show ((i : Int) + 1).toNat = i + 1 from by omega]
  · rw [if_neg (by omega), finE_out (by omega)]
theorem getD_any {es : List Int} {i : Nat} (h : i < es.length) (x y : Int) : es.getD i x = es.getD i y := by
  rw [List.getD_eq_getElem?_getD, List.getD_eq_getElem?_getD, List.getElem?_eq_getElem h]; rfl
theorem getD_get {es : List Int} {i : Nat} (h : i < es.length) (x : Int) : es.getD i x = es[i] := by
  rw [List.getD_eq_getElem?_getD, List.getElem?_eq_getElem h]; rfl
/-- entries rise -/
theorem ent_up {es : List Int} {n : Nat} (rise : ∀ i, i < es.length → es.getD i 0 < finE es n i) {i : Nat} : ∀ {k : Nat}, i < k → k < es.length → finE es n i ≤ es.getD k 0
  | 0, h, _ => by omega
  | k + 1, h, hk => by
    by_cases e : i = k
    · subst e; rw [finE_in hk]; exact Int.le_refl _
    · have h1 := ent_up rise (i := i) (k := k) (by omega) (by omega)
      have h2 := rise k (by omega)
      rw [finE_in hk] at h2
      omega
theorem procE_at {es : List Int} {a : Int} {i : Nat} : ∀ {m : Nat}, i < m → es.getD i 0 ≤ a → (∀ k, i < k → k < m → a < es.getD k 0) → procE es a m = (i : Int)
  | 0, h, _, _ => by omega
  | m + 1, h, h1, h2 => by
    rw [procE]
    by_cases e : i = m
    · subst e; rw [if_pos h1]
    · rw [if_neg (by have := h2 m (by omega) (by omega); omega)]
      exact procE_at (by omega) h1 (fun k a b => h2 k a (by omega))
theorem procE_lo (es : List Int) (a : Int) : ∀ m, -1 ≤ procE es a m
  | 0 => by rw [procE]; omega
  | m + 1 => by
    rw [procE]
    split
    · omega
    · exact procE_lo es a m
theorem procE_hi (es : List Int) (a : Int) : ∀ m, procE es a m < (m : Int)
  | 0 => by rw [procE]; omega
  | m + 1 => by
    rw [procE]
    split
    · omega
    · have := procE_hi es a m; omega
theorem procE_in {es : List Int} {n : Nat} (rise : ∀ i, i < es.length → es.getD i 0 < finE es n i) {a : Int} {i : Nat} (hi : i < es.length) (h1 : es.getD i 0 ≤ a) (h2 : a < finE es n i) : procE es a es.length = (i : Int) :=
  procE_at hi h1 fun k a b => by have := ent_up rise a b; omega
/-- each place lies in a procedure -/
theorem proc_ex {es : List Int} {n : Nat} (zero : es.getD 0 1 = 0) {a : Int} (h0 : 0 ≤ a) (h1 : a < (n : Int)) : ∃ i, i < es.length ∧ es.getD i 0 ≤ a ∧ a < finE es n i := by
  have hl : 0 < es.length := by
    rcases Nat.eq_zero_or_pos es.length with h | h
    · have e : es = [] := List.eq_nil_of_length_eq_zero h
      subst e; simp at zero
    · exact h
  have key : ∀ m, m ≤ es.length → 0 < m → (∀ k, m ≤ k → k < es.length → a < es.getD k 0) → ∃ i, i < es.length ∧ es.getD i 0 ≤ a ∧ a < finE es n i := by
    intro m
    induction m with
    | zero => intro _ h; omega
    | succ m ih =>
      intro hm _ hk
      by_cases e : es.getD m 0 ≤ a
      · refine ⟨m, by omega, e, ?_⟩
        by_cases e2 : m + 1 < es.length
        · rw [finE_in e2]; exact hk (m + 1) (Nat.le_refl _) e2
        · rw [finE_out (by omega)]; exact h1
      · rcases Nat.eq_zero_or_pos m with h | h
        · subst h; rw [getD_any hl 0 1, zero] at e; omega
        · refine ih (by omega) h fun k h2 h3 => ?_
          by_cases e3 : k = m
          · subst e3; omega
          · exact hk k (by omega) h3
  exact key es.length (Nat.le_refl _) hl (fun k h1 h2 => by omega)

/-- how many ends lie ahead of a place -/
def cnt9 (ops : List Int) (m : Nat) : Nat := (ops.take m).countP (fun o => o == 9)
theorem cnt9_succ {ops : List Int} {m : Nat} (h : m < ops.length) : cnt9 ops (m + 1) = cnt9 ops m + (if ops.getD m 0 = 9 then 1 else 0) := by
  unfold cnt9
  have e : ops.take (m + 1) = ops.take m ++ [ops[m]] := List.take_succ_eq_append_getElem h
  rw [e, List.countP_append, getD_get h]
  by_cases q : ops[m] = 9
  · rw [if_pos q, q]; rfl
  · rw [if_neg q]; simp [q]
theorem cnt9_le {ops : List Int} {a : Nat} : ∀ {b : Nat}, a ≤ b → b ≤ ops.length → cnt9 ops a ≤ cnt9 ops b
  | 0, h, _ => by have : a = 0 := by omega
                  subst this; exact Nat.le_refl _
  | b + 1, h, hb => by
    by_cases e : a = b + 1
    · subst e; exact Nat.le_refl _
    · have := cnt9_le (ops := ops) (a := a) (b := b) (by omega) (by omega)
      rw [cnt9_succ (by omega)]; omega
theorem cnt9_none {ops : List Int} {a : Nat} : ∀ {b : Nat}, a ≤ b → b ≤ ops.length → (∀ j, a ≤ j → j < b → ops.getD j 0 ≠ 9) → cnt9 ops b = cnt9 ops a
  | 0, h, _, _ => by have : a = 0 := by omega
                     subst this; rfl
  | b + 1, h, hb, hn => by
    by_cases e : a = b + 1
    · subst e; rfl
    · rw [cnt9_succ (by omega), if_neg (hn b (by omega) (by omega)), cnt9_none (ops := ops) (a := a) (b := b) (by omega) (by omega) (fun j h1 h2 => hn j h1 (by omega))]; omega
/-- with an end in a stretch there is one more behind it -/
theorem cnt9_some {ops : List Int} {a b j : Nat} (h : a ≤ j) (hj : j < b) (hb : b ≤ ops.length) (e : ops.getD j 0 = 9) : cnt9 ops a + 1 ≤ cnt9 ops b := by
  have h1 := cnt9_le (ops := ops) (a := a) (b := j) h (by omega)
  have h2 := cnt9_le (ops := ops) (a := j + 1) (b := b) (by omega) hb
  rw [cnt9_succ (by omega), if_pos e] at h2
  omega
theorem cnt9_all (ops : List Int) : cnt9 ops ops.length = ops.countP (fun o => o == 9) := by unfold cnt9; rw [List.take_length]

section
variable {es ops : List Int} (zero : es.getD 0 1 = 0) (rise : ∀ i, i < es.length → es.getD i 0 < finE es ops.length i)
  (top : ∀ i, i < es.length → finE es ops.length i ≤ (ops.length : Int)) (last : ∀ i, i < es.length → ops.getD (finE es ops.length i - 1).toNat 0 = 9)
include zero rise in
theorem ent_nat : ∀ i, i < es.length → 0 ≤ es.getD i 0 := by
  intro i hi
  have hl : 0 < es.length := by omega
  rcases Nat.eq_zero_or_pos i with h | h
  · subst h; rw [getD_any hl 0 1, zero]; exact Int.le_refl _
  · have h1 := ent_up rise h hi
    have h2 := rise 0 hl
    rw [getD_any hl 0 1, zero] at h2
    omega
include zero rise top last in
theorem cnt_low : ∀ i, i < es.length → i + 1 ≤ cnt9 ops (finE es ops.length i).toNat ∧ i ≤ cnt9 ops (es.getD i 0).toNat := by
  intro i
  induction i with
  | zero =>
    intro hi
    have h1 := rise 0 hi
    have h2 := ent_nat zero rise 0 hi
    have h3 := top 0 hi
    have := cnt9_some (ops := ops) (a := (es.getD 0 0).toNat) (b := (finE es ops.length 0).toNat) (j := (finE es ops.length 0 - 1).toNat) (by omega) (by omega) (by omega) (last 0 hi)
    omega
  | succ i ih =>
    intro hi
    have h0 := (ih (by omega)).1
    rw [finE_in hi] at h0
    have h1 := rise (i + 1) hi
    have h2 := ent_nat zero rise (i + 1) hi
    have h3 := top (i + 1) hi
    have := cnt9_some (ops := ops) (a := (es.getD (i + 1) 0).toNat) (b := (finE es ops.length (i + 1)).toNat) (j := (finE es ops.length (i + 1) - 1).toNat) (by omega) (by omega) (by omega) (last (i + 1) hi)
    omega
/-- from behind: ends that remain -/
theorem cnt_high (rise : ∀ i, i < es.length → es.getD i 0 < finE es ops.length i) (zero : es.getD 0 1 = 0) (top : ∀ i, i < es.length → finE es ops.length i ≤ (ops.length : Int)) (last : ∀ i, i < es.length → ops.getD (finE es ops.length i - 1).toNat 0 = 9)
    (hc : cnt9 ops ops.length = es.length) : ∀ d i, i + d + 1 = es.length → cnt9 ops (finE es ops.length i).toNat ≤ i + 1 := by
  intro d
  induction d with
  | zero =>
    intro i hi
    rw [finE_out (by omega), Int.toNat_natCast, hc]; omega
  | succ d ih =>
    intro i hi
    have h0 := ih (i + 1) (by omega)
    have hi2 : i + 1 < es.length := by omega
    have h1 := rise (i + 1) hi2
    have h2 := ent_nat zero rise (i + 1) hi2
    have h3 := top (i + 1) hi2
    have := cnt9_some (ops := ops) (a := (es.getD (i + 1) 0).toNat) (b := (finE es ops.length (i + 1)).toNat) (j := (finE es ops.length (i + 1) - 1).toNat) (by omega) (by omega) (by omega) (last (i + 1) hi2)
    rw [finE_in hi2]; omega
end
theorem entI_ok {es ops : List Int} (h : EntI es ops) : EntOk es ops := by
  refine ⟨h.zero, h.rise, h.top, h.last, fun i j hi h1 h2 h9 => ?_⟩
  have hc : cnt9 ops ops.length = es.length := by rw [cnt9_all]; exact h.count
  have e1 := (cnt_low h.zero h.rise h.top h.last i hi).2
  have e2 := cnt_high h.rise h.zero h.top h.last hc (es.length - i - 1) i (by omega)
  have n0 := ent_nat h.zero h.rise i hi
  have t0 := h.top i hi
  have a1 := cnt9_some (ops := ops) (a := (es.getD i 0).toNat) (b := j + 1) (j := j) (by omega) (by omega) (by omega) h9
  have a2 := cnt9_some (ops := ops) (a := j + 1) (b := (finE es ops.length i).toNat) (j := (finE es ops.length i - 1).toNat) (by omega) (by omega) (by omega) (h.last i hi)
  omega
theorem entI_of {es ops : List Int} (h : EntOk es ops) : EntI es ops := by
  refine ⟨h.zero, ?_, h.rise, h.top, h.last⟩
  rw [← cnt9_all]
  have hl : 0 < es.length := by
    rcases Nat.eq_zero_or_pos es.length with e | e
    · have e : es = [] := List.eq_nil_of_length_eq_zero e
      subst e; have := h.zero; simp at this
    · exact e
  have key : ∀ i, i < es.length → cnt9 ops (finE es ops.length i).toNat = i + 1 := by
    intro i
    have step : ∀ i, i < es.length → cnt9 ops (finE es ops.length i).toNat = cnt9 ops (es.getD i 0).toNat + 1 := by
      intro i hi
      have h1 := h.rise i hi
      have h2 := ent_nat h.zero h.rise i hi
      have h3 := h.top i hi
      have e : (finE es ops.length i).toNat = (finE es ops.length i - 1).toNat + 1 := by omega
      have a1 := cnt9_none (ops := ops) (a := (es.getD i 0).toNat) (b := (finE es ops.length i - 1).toNat) (by omega) (by omega) (fun j j1 j2 => h.mid i j hi (by omega) (by omega))
      rw [e, cnt9_succ (by omega), if_pos (h.last i hi), a1]
    induction i with
    | zero =>
      intro hi
      rw [step 0 hi, getD_any hl 0 1, h.zero]; rfl
    | succ i ih =>
      intro hi
      rw [step (i + 1) hi, ← finE_in hi (n := ops.length), ih (by omega)]
  have := key (es.length - 1) (by omega)
  rw [finE_out (by omega), Int.toNat_natCast] at this
  omega
theorem entS_ok {es ops : List Int} (hl : 0 < es.length) (h : EntS es ops) : EntOk es ops := by
  have zero : es.getD 0 1 = 0 := (h.rise 0 hl).1 rfl
  have rise : ∀ i, i < es.length → es.getD i 0 < finE es ops.length i := by
    intro i hi
    by_cases e : i + 1 < es.length
    · rw [finE_in e]; exact (h.rise (i + 1) e).2.1 (by omega)
    · rw [finE_out (by omega)]; exact (h.rise i hi).2.2
  have top : ∀ i, i < es.length → finE es ops.length i ≤ (ops.length : Int) := by
    intro i hi
    by_cases e : i + 1 < es.length
    · rw [finE_in e]; have := (h.rise (i + 1) e).2.2; omega
    · rw [finE_out (by omega)]; exact Int.le_refl _
  have nn := ent_nat zero rise
  refine ⟨zero, rise, top, fun i hi => ?_, fun i j hi h1 h2 h9 => ?_⟩
  · have h1 := rise i hi
    have h2 := nn i hi
    have h3 := top i hi
    have e := h.ends (finE es ops.length i - 1).toNat (by omega)
    have e0 : (((finE es ops.length i - 1).toNat : Nat) : Int) = finE es ops.length i - 1 := by omega
    rw [e0, procE_in rise hi (by omega) (by omega), endE_fin] at e
    rw [show (finE es ops.length i - 1 == finE es ops.length i - 1) = true from by simp] at e
    exact beq_iff_eq.1 e
  · have h3 := top i hi
    have e := h.ends j (by omega)
    rw [procE_in rise hi h1 (by omega), endE_fin, h9, show (finE es ops.length i - 1 == (j : Int)) = false from by simp; omega] at e
    cases e
theorem entS_of {es ops : List Int} (h : EntOk es ops) : EntS es ops := by
  have nn := ent_nat h.zero h.rise
  refine ⟨fun i hi => ⟨fun e => h.zero, fun h0 => ?_, ?_⟩, fun j hj => ?_⟩
  · have := h.rise (i - 1) (by omega)
    rw [finE_in (by omega), show i - 1 + 1 = i from by omega] at this
    exact this
  · have := h.rise i hi; have := h.top i hi; omega
  · obtain ⟨i, hi, h1, h2⟩ := proc_ex h.zero (n := ops.length) (a := (j : Int)) (by omega) (by omega)
    rw [procE_in h.rise hi h1 h2, endE_fin]
    by_cases e : finE es ops.length i - 1 = (j : Int)
    · have := h.last i hi
      rw [e, Int.toNat_natCast] at this
      rw [this, e]; simp
    · have := h.mid i j hi h1 (by omega)
      rw [show (ops.getD j 0 == 9) = false from by simpa using this, show (finE es ops.length i - 1 == (j : Int)) = false from by simpa using e]
end Go.Proofs.YtefcdpkficojgaaDoor
