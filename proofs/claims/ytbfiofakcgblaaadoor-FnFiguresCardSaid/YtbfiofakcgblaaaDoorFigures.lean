/- What FnFigures asks, in plain words, and the drawn places it reads. -/
import Derived.Test.YtbfiofakcgblaaaDoorDecLaws
import Derived.Test.YtbfiofakcgblaaaDoorUnhex
import Derived.Test.YtbfiofakcgblaaaDoorWords
import Derived.Test.YtbfiofakcgblaaaDoorPlaces
namespace Go.Proofs.YtbfiofakcgblaaaDoor
open Go.RowKit
set_option linter.unusedVariables false

theorem dec_dig {x : Nat} (h : x < 10) : (UInt8.ofNat (48 + x)).toNat = 48 + x := by rw [UInt8.toNat_ofNat']; omega
theorem dec_facts (u : Nat) : valL (Lib.decDigits u) = u ∧ (Lib.decDigits u).all isDig = true := by
  induction u using Nat.strongRecOn with
  | ind u ih =>
    rw [Lib.decDigits]
    by_cases h : u < 10
    · rw [dif_pos h]
      have e := dec_dig h
      refine ⟨?_, ?_⟩
      · simp only [valL, List.foldl_cons, List.foldl_nil, e]; omega
      · simp only [List.all_cons, List.all_nil, isDig, e, Bool.and_true]
        rw [decide_eq_true (by omega), decide_eq_true (by omega)]; rfl
    · rw [dif_neg h]
      obtain ⟨h1, h2⟩ := ih (u / 10) (by omega)
      have e := dec_dig (x := u % 10) (by omega)
      refine ⟨?_, ?_⟩
      · rw [valL_snoc, h1, e]; omega
      · rw [List.all_append, h2]
        simp only [List.all_cons, List.all_nil, isDig, e, Bool.and_true, Bool.true_and]
        rw [decide_eq_true (by omega), decide_eq_true (by omega)]; rfl
theorem dec_len (k : Nat) : ∀ u, u < 10 ^ (k + 1) → (Lib.decDigits u).length ≤ k + 1 := by
  induction k with
  | zero => intro u h; rw [Lib.decDigits, dif_pos (by simpa using h)]; simp
  | succ k ih =>
    intro u h
    rw [Lib.decDigits]
    by_cases h1 : u < 10
    · rw [dif_pos h1]; simp
    · rw [dif_neg h1, List.length_append]
      have := ih (u / 10) (by rw [Nat.pow_succ] at h; omega)
      simp only [List.length_cons, List.length_nil]; omega
theorem read_itoa {n : Int} (h0 : 0 ≤ n) (h1 : n ≤ 1000000000) : readD ⟨(Lib.itoa n).toArray⟩ = (n, true) := by
  obtain ⟨u, rfl⟩ := Int.eq_ofNat_of_zero_le h0
  have e : Lib.itoa (u : Int) = Lib.decDigits u := by
    unfold Lib.itoa; rw [if_neg (by omega)]; simp
  obtain ⟨f1, f2⟩ := dec_facts u
  have f3 := dec_len 9 u (by omega)
  rw [e]
  have f4 : valL (⟨(Lib.decDigits u).toArray⟩ : ByteArray).data.toList = u := f1
  rw [readD_yes (by rw [str_size]; omega) f2 (by rw [f4]; omega) (by rw [f4, e]), f4]
theorem unhex_hex (l : List UInt8) : unhexL (hexL l) = some l := by
  induction l with
  | nil => rfl
  | cons c r ih =>
    have e : hexL (c :: r) = figC (c.toNat / 16) :: figC (c.toNat % 16) :: hexL r := rfl
    have hc := c.toNat_lt
    have v : ∀ x : Nat, x < 16 → valN ((figC x).toNat : Int) = (x : Int) := by
      intro x hx
      have : x = 0 ∨ x = 1 ∨ x = 2 ∨ x = 3 ∨ x = 4 ∨ x = 5 ∨ x = 6 ∨ x = 7 ∨ x = 8 ∨ x = 9 ∨ x = 10 ∨ x = 11 ∨ x = 12 ∨ x = 13 ∨ x = 14 ∨ x = 15 := by omega
      rcases this with rfl | rfl | rfl | rfl | rfl | rfl | rfl | rfl | rfl | rfl | rfl | rfl | rfl | rfl | rfl | rfl <;> decide
    rw [e, unhexL, v _ (by omega), v _ (by omega), if_neg (by omega), ih]
    simp only [Option.map_some, Option.some.injEq, List.cons.injEq, and_true]
    have e2 : (16 * ((c.toNat / 16 : Nat) : Int) + ((c.toNat % 16 : Nat) : Int)).toNat = c.toNat := by omega
    rw [e2]
    simp
theorem unhexR_hex (l : List UInt8) (h : l.length ≤ 20000) : unhexR (hexL l) = (l, true) := by
  unfold unhexR
  have := hexL_length l
  rw [if_neg (by omega), unhex_hex]
theorem brought_in {n l m : Int} (h : l ≤ m) : l ≤ brought n l m ∧ brought n l m ≤ m ∧ brought (brought n l m) l m = brought n l m := by
  unfold brought
  repeat' split
  all_goals omega
theorem draw_places8 (A : Option Addr) (c : Nat) (code : List UInt8) (hl : code.length ≤ 1048576) (hc : c ≤ maxLen) : ∃ p0 p1 p2 p3 p4 p5 p6 p7 : Int, (0 ≤ p0 ∧ p0 < 10000) ∧ (0 ≤ p1 ∧ p1 < 10000) ∧ (0 ≤ p2 ∧ p2 < 10000) ∧ (0 ≤ p3 ∧ p3 < 10000) ∧ (0 ≤ p4 ∧ p4 < 10000) ∧ (0 ≤ p5 ∧ p5 < 10000) ∧ (0 ≤ p6 ∧ p6 < 10000) ∧ (0 ≤ p7 ∧ p7 < 10000) ∧
    ∀ w, Rd w 1 A code.length (bv code) → Calls Tryd.prog 11 #[.slice A code.length c] w fun e w' => ∃ b off c', e = .returned (.slice (some ⟨b, off, none⟩) 12 c') ∧ (w'.cell? ⟨b, off, none⟩ = some (.int .i64 p0) ∧ w'.cell? ⟨b, off + 1, none⟩ = some (.int .i64 p1) ∧ w'.cell? ⟨b, off + 2, none⟩ = some (.int .i64 p2) ∧ w'.cell? ⟨b, off + 3, none⟩ = some (.int .i64 p3) ∧
      w'.cell? ⟨b, off + 4, none⟩ = some (.int .i64 p4) ∧ w'.cell? ⟨b, off + 5, none⟩ = some (.int .i64 p5) ∧ w'.cell? ⟨b, off + 6, none⟩ = some (.int .i64 p6) ∧ w'.cell? ⟨b, off + 7, none⟩ = some (.int .i64 p7)) ∧ Below w.heap.size w w' := by
  obtain ⟨h1, h2⟩ := placesD_ok code
  refine ⟨(placesD code)[0], (placesD code)[1], (placesD code)[2], (placesD code)[3], (placesD code)[4], (placesD code)[5], (placesD code)[6], (placesD code)[7], h2 _ (List.getElem_mem _), h2 _ (List.getElem_mem _), h2 _ (List.getElem_mem _), h2 _ (List.getElem_mem _), h2 _ (List.getElem_mem _), h2 _ (List.getElem_mem _), h2 _ (List.getElem_mem _), h2 _ (List.getElem_mem _), fun w rd => (spec_DrawPlaces A c code w rd hl hc).mono ?_⟩
  rintro e w' ⟨v', rfl, ⟨A', c', rfl, _, _, rdz⟩, b⟩
  obtain ⟨b0, o0, rfl, hcell⟩ := rdz.2 (by omega)
  refine ⟨b0, o0, c', by rw [h1], ⟨?_, ?_, ?_, ?_, ?_, ?_, ?_, ?_⟩, b⟩
  · exact hcell 0 _ (by simp [h1])
  · exact hcell 1 _ (by simp [h1])
  · exact hcell 2 _ (by simp [h1])
  · exact hcell 3 _ (by simp [h1])
  · exact hcell 4 _ (by simp [h1])
  · exact hcell 5 _ (by simp [h1])
  · exact hcell 6 _ (by simp [h1])
  · exact hcell 7 _ (by simp [h1])
end Go.Proofs.YtbfiofakcgblaaaDoor
