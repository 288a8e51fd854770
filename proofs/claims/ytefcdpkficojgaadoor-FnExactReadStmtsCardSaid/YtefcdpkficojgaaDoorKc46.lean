/- Several texts in one: RsSt4, RsTop. -/
import Derived.Test.YtefcdpkficojgaaDoorKc42
import Derived.Test.YtefcdpkficojgaaDoorKc43
import Derived.Test.YtefcdpkficojgaaDoorKc45
import Derived.Test.YtefcdpkficojgaaDoorKc44
import Derived.Test.YtefcdpkficojgaaDoorKc24
namespace Go.Proofs.YtefcdpkficojgaaDoor
open Go.RowKit
set_option linter.unusedVariables false


theorem rs_stmt_any (r : Nat) (h6 : r ≤ 6) (ih : ∀ r', r = r' + 1 → SpSC r') : StC r := by
  intro w rb A c n i L left hs hA hl h0 h
  unfold firstG
  have hcase := word_cases (L := L) (i := i) rfl h0
  by_cases hd : (wordOf L i = 2 ∨ wordOf L i = 3) ∧ r = 0
  · rw [if_pos hd]
    obtain ⟨h23, rfl⟩ := hd
    rcases h23 with h2 | h3
    · exact rs_stmt_deep2 w rb A c n i L (left : Int) hs hA h h2
    · exact rs_stmt_deep3 w rb A c n i L (left : Int) hs hA h h3
  rw [if_neg hd]
  by_cases hl0 : left = 0
  · rw [if_pos hl0]
    subst hl0
    by_cases h2 : wordOf L i = 2
    · exact rs_stmt_full2 w rb A c n i L (r : Int) hs hA h h2 (fun e => hd ⟨.inl h2, by omega⟩)
    by_cases h3 : wordOf L i = 3
    · exact rs_stmt_full3 w rb A c n i L (r : Int) hs hA h h3 (fun e => hd ⟨.inr h3, by omega⟩)
    exact rs_stmt_fullo w rb A c n i L (r : Int) hs hA h _ rfl ⟨h2, h3⟩
  rw [if_neg hl0]
  obtain ⟨lf, rfl⟩ : ∃ lf, left = lf + 1 := ⟨left - 1, by omega⟩
  rw [Nat.add_sub_cancel]
  by_cases h23 : wordOf L i = 2 ∨ wordOf L i = 3
  · have hr0 : ¬ r = 0 := fun h => hd ⟨h23, h⟩
    obtain ⟨r', rfl⟩ : ∃ r', r = r' + 1 := ⟨r - 1, by omega⟩
    rw [Nat.add_sub_cancel]
    rcases h23 with h2 | h3
    · rw [h2]
      exact rs_stmt_nes2 r' (by omega) (ih r' rfl) w rb A c n i L lf hs hA _ hl h (by omega) h2
    · rw [h3]
      exact rs_stmt_nes3 r' (by omega) (ih r' rfl) w rb A c n i L lf hs hA _ hl h (by omega) h3
  rcases hcase with h1 | h1 | h1 | h1 | h1 | h1 | h1 | h1
  · rw [h1]; exact rs_stmt_set _ w rb A c n i L lf hs hA _ hl h h1
  · exact absurd (.inl h1) h23
  · exact absurd (.inr h1) h23
  · exact rs_stmt_word _ w rb A c n i L lf hs hA _ hl h _ rfl (by omega)
  · exact rs_stmt_word _ w rb A c n i L lf hs hA _ hl h _ rfl (by omega)
  · exact rs_stmt_word _ w rb A c n i L lf hs hA _ hl h _ rfl (by omega)
  · exact rs_stmt_word _ w rb A c n i L lf hs hA _ hl h _ rfl (by omega)
  · rw [h1]; exact rs_stmt_skip _ w rb A c n i L lf hs hA _ hl h h1
theorem rs_stmts_all (r : Nat) (h6 : r ≤ 6) : SpSC r := by
  induction r with
  | zero => exact rs_stmts_of 0 (rs_stmt_any 0 h6 (fun r' e => by omega))
  | succ r ih => exact rs_stmts_of (r + 1) (rs_stmt_any (r + 1) h6 (fun r' e => (Nat.succ.inj e) ▸ ih (by omega)))

theorem lexS_none (s : ByteArray) (n : Nat) : ∀ i acc, s.size - i ≤ n → ¬ (lexS s i acc).2.1 = 0 → (lexS s i acc).1 = [] := by
  induction n with
  | zero => intro i acc h h0; rw [lexS_end (by omega)] at h0; exact absurd rfl h0
  | succ n ih =>
    intro i acc h h0
    by_cases h1 : i < s.size
    · cases hb : blankB s[i] with
      | true => rw [lexS_blank h1 hb] at h0 ⊢; exact ih (i + 1) acc (by omega) h0
      | false =>
        cases ho : (signP s i h1).2.2 with
        | true =>
          rw [lexS_sign h1 hb ho] at h0 ⊢
          have hbd := signP_bd s i h1
          exact ih _ _ (by omega) h0
        | false => rw [lexS_bad h1 hb ho]
    · rw [lexS_end h1] at h0; exact absurd rfl h0
theorem lexR_len (s : ByteArray) : (lexR s).1.length ≤ 6000 := by
  by_cases hf : (lexR s).2.1 = 0
  · exact (lexR_ok hf).2.2
  · by_cases h : 6000 < s.size
    · rw [lexR_long h]; simp
    · rw [lexR_short h] at hf ⊢
      rw [lexS_none s _ 0 [] (Nat.le_refl _) hf]; simp
end Go.Proofs.YtefcdpkficojgaaDoor
