/- What FnSigns asks of the signs of a drawn term's text. Plain. -/
import Derived.Test.YtbbmoinaakbnbaaDoorTermSg
namespace Go.Proofs.YtbbmoinaakbnbaaDoor
open Go.RowKit
set_option linter.unusedVariables false

theorem spT_snoc (l : List Sg) (g : Sg) : (spT (l ++ [g])).length = (spT l).length + 2 + g.t.size := by
  induction l with
  | nil => simp [spT]; omega
  | cons x r ih => simp only [List.cons_append, spT, List.length_cons, List.length_append, ih]; omega
theorem lexS_sum (s : ByteArray) (n : Nat) : ∀ i acc, s.size - i ≤ n → i ≤ s.size → (spT (lexS s i acc).1).length ≤ (spT acc).length + 3 * (s.size - i) := by
  induction n with
  | zero => intro i acc h _; rw [lexS_end (by omega)]; simp
  | succ n ih =>
    intro i acc h h2
    by_cases h1 : i < s.size
    · cases hb : blankB s[i] with
      | true => rw [lexS_blank h1 hb]; have := ih (i + 1) acc (by omega) (by omega); omega
      | false =>
        cases ho : (signP s i h1).2.2 with
        | true =>
          rw [lexS_sign h1 hb ho]
          have hbd := signP_bd s i h1
          have hl := (drop_cut (s := s) (i := i) (e := (signP s i h1).2.1) (by omega) hbd.2).2
          rw [size_list] at hl
          have := ih (signP s i h1).2.1 (acc ++ [⟨(signP s i h1).1, s.extract i (signP s i h1).2.1, i⟩]) (by omega) hbd.2
          rw [spT_snoc] at this
          simp only [hl] at this
          omega
        | false => rw [lexS_bad h1 hb ho]; simp [spT]
    · rw [lexS_end h1]; simp
theorem spS_length (l : List Sg) : ∀ i, (spS l i).length = l.length := by
  induction l with
  | nil => intro i; rfl
  | cons g r ih => intro i; simp [spS, ih]
theorem spS_at (l : List Sg) : ∀ i j, (h : j < l.length) → (h2 : j < (spS l i).length) → (spS l i)[j].k = l[j].k ∧ (spS l i)[j].t = l[j].t := by
  induction l with
  | nil => intro i j h; cases h
  | cons g r ih =>
    intro i j h h2
    cases j with
    | zero => exact ⟨rfl, rfl⟩
    | succ j => simp only [spS, List.getElem_cons_succ]; exact ih _ j (by simpa using h) _
theorem lexR_spaced {l : List Sg} (ht : ∀ g ∈ l, Tok g.k g.t.data.toList) (hl : (spT l).length ≤ 5000) :
    lexR ⟨(spT l).toArray⟩ = (spS l 0, 0, 0) ∧ (lexR ⟨(spT l ++ [32, 37]).toArray⟩).2 = (2, (((spT l).length + 1 : Nat) : Int)) := by
  constructor
  · rw [lexR_short (by rw [str_size]; omega), lex_sp l (rest := []) (by simp) ht ⟨offW_nil, offE_nil⟩, lex_end (by simp)]
    simp
  · rw [lexR_short (by rw [str_size, List.length_append]; simp; omega)]
    have h0 : (⟨(spT l ++ [32, 37]).toArray⟩ : ByteArray).data.toList.drop 0 = spT l ++ [32, 37] := by simp
    have h1 := drop_more h0
    have h2 := drop_one h1
    rw [lex_sp l h0 ht ⟨offW_cons (by decide), offE_cons (by decide)⟩, lex_blank h1 rfl]
    obtain ⟨hi, e⟩ := at_of h2
    have hx := ext_of (a := [37]) h2
    simp only [List.length_cons, List.length_nil] at hx
    have et := two_no hi (by rw [e]; decide)
    rw [lexS_bad hi (by rw [e]; rfl) (by
      unfold signP
      rw [e, if_neg (by decide), if_neg (by decide), if_neg (by rw [et]; decide)]
      simp only
      rw [hx]
      unfold markB
      rw [Lib.toList_data]
      rfl)]
    simp
/-- all that FnSigns asks of the drawn term's text -/
theorem signs_of {t : Tm} (h : okT 3 t = true) : ∃ l, lexR ⟨(txtT t).toArray⟩ = (l, 0, 0) ∧ 0 < l.length ∧ l.length ≤ 1000 ∧ (spT l).length ≤ 1000 ∧ lexR ⟨(spT l).toArray⟩ = (spS l 0, 0, 0) ∧
    (lexR ⟨(spT l ++ [32, 37]).toArray⟩).2 = (2, (((spT l).length + 1 : Nat) : Int)) ∧ ∀ g ∈ spS l 0, Good ⟨(spT l).toArray⟩ g := by
  have hlen := txt_len 3 t h
  have hs : (⟨(txtT t).toArray⟩ : ByteArray).size = (txtT t).length := str_size _
  have hd : (⟨(txtT t).toArray⟩ : ByteArray).data.toList.drop 0 = txtT t ++ [] := by simp
  have e : lexS ⟨(txtT t).toArray⟩ 0 [] = (sgnT t 0, 0, 0) := by
    rw [lex_term 3 t h hd offW_nil, lex_end (drop_more hd)]; rfl
  have b1 := lexS_sum ⟨(txtT t).toArray⟩ _ 0 [] (Nat.le_refl _) (by omega)
  have g1 := lexS_good ⟨(txtT t).toArray⟩ _ 0 [] (Nat.le_refl _) (fun g hg => by cases hg)
  rw [e] at b1 g1
  simp only [spT, List.length_nil, Nat.zero_add, Nat.sub_zero] at b1
  rw [hs] at b1
  have b2 : ∀ l : List Sg, l.length ≤ (spT l).length := by
    intro l
    induction l with
    | nil => exact Nat.zero_le _
    | cons g r ih => simp only [spT, List.length_cons, List.length_append]; omega
  have b3 := b2 (sgnT t 0)
  obtain ⟨r1, r2⟩ := lexR_spaced (l := sgnT t 0) (fun g hg => (g1 g hg).tok) (by omega)
  refine ⟨sgnT t 0, by rw [lexR_short (by omega), e], sgnT_ne t 3 h 0, by omega, by omega, r1, r2, ?_⟩
  have g2 := lexS_good ⟨(spT (sgnT t 0)).toArray⟩ _ 0 [] (Nat.le_refl _) (fun g hg => by cases hg)
  rw [lexR_short (by rw [str_size]; omega)] at r1
  rw [r1] at g2
  exact g2
end Go.Proofs.YtbbmoinaakbnbaaDoor
