/- A term that was read has no more parts than there are signs. -/
import Derived.Test.YtefcdpkficojgaaDoorRdTop
namespace Go.Proofs.YtefcdpkficojgaaDoor
open Go.RowKit
set_option linter.unusedVariables false

theorem rdT_nodes (L : List Sg) (n r : Nat) : ∀ i t q, rdT L n r i = .ok t q → i + nodes t ≤ q := by
  have leaf : ∀ i t q g, (∀ t q, g = .ok t q → i + nodes t ≤ q) → leafT L n i g = .ok t q → i + nodes t ≤ q := by
    intro i t q g hg h
    unfold leafT at h
    split at h
    · injection h with h1 h2
      subst h1 h2
      simp [nodes, nodess]
    · split at h
      · injection h with h1 h2
        subst h1 h2
        simp [nodes, nodess]
      · split at h
        · exact hg _ _ h
        · cases h
  induction r with
  | zero => intro i t q h; rw [rdT] at h; exact leaf i t q _ (fun _ _ h => by cases h) h
  | succ r ih =>
    intro i t q h
    rw [rdT] at h
    refine leaf i t q _ ?_ h
    intro t q h
    unfold innT at h
    split at h
    · split at h
      · cases h
      · next x q1 h1 =>
        have h3 := ih _ _ _ h1
        obtain ⟨e1, e2, _⟩ := closeT_ok h
        subst e1 e2
        simp only [nodes, nodess]
        omega
    · split at h
      · cases h
      · next a q1 h1 =>
        have h3 := ih _ _ _ h1
        split at h
        · cases h
        · split at h
          · cases h
          · next b q2 h2 =>
            have h4 := ih _ _ _ h2
            obtain ⟨e1, e2, _⟩ := closeT_ok h
            subst e1 e2
            simp only [nodes, nodess]
            omega
theorem readT_nodes (s : ByteArray) : nodes (readT s).1 ≤ 6001 := by
  unfold readT
  split
  · next hf =>
    have hl := (lexR_ok hf).2.2
    split
    · simp [zTmR, nodes, nodess]
    · next t q h =>
      cases h6 : rdT (lexR s).1 s.size 6 0 with
      | bad c p => rw [h6] at h; cases h
      | ok t' q' =>
        rw [h6] at h
        simp only [endT] at h
        split at h
        · cases h
        · injection h with h1 h2
          subst h1 h2
          have := rdT_nodes _ _ _ _ _ _ h6
          have := (rdT_lt _ _ _ _ _ _ h6).2
          simp only
          omega
  · simp [zTmR, nodes, nodess]
end Go.Proofs.YtefcdpkficojgaaDoor
