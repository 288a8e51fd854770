/- What the law asks of the parts of a graph. -/
import Derived.Test.YtfnjllaaadhbbaaCompsPlain
namespace Go.Proofs.Ytfnjllaaadhbbaa
open Go.RowKit
set_option linter.unusedVariables false

structure Told (n : Nat) (ars : List Arc2) (zss : List (List Int)) : Prop where
  pos : ∀ a : Nat, a < n → ¬ compAt zss (a : Int) < 0
  same : ∀ a b : Nat, a < n → b < n → a ≠ b → (compAt zss (a : Int) == compAt zss (b : Int)) = (reachB (n : Int) ars (a : Int) (b : Int) && reachB (n : Int) ars (b : Int) (a : Int))
  after : ∀ a b : Nat, a < n → b < n → reachB (n : Int) ars (a : Int) (b : Int) = true → reachB (n : Int) ars (b : Int) (a : Int) = false → ¬ compAt zss (a : Int) < compAt zss (b : Int)
  ring : ∀ k (h : k < zss.length), ∃ h0 : 0 < zss[k].length, cycB (n : Int) ars zss[k] = reachB (n : Int) ars zss[k][0] zss[k][0]
theorem reachB_at {n : Nat} {ars : List Arc2} (hg : graphB (n : Int) ars = true) {a b : Nat} (ha : a < n) (hb : b < n) : reachB (n : Int) ars (a : Int) (b : Int) = warsh (arcR ars) n a b := by
  unfold reachB
  rw [hg, inB_yes (by omega) (by omega), inB_yes (by omega) (by omega)]
  simp
theorem part_lt {n : Nat} {W : Rel} {i : Nat} : ∀ x, x ∈ partL n W i → x < n := by
  intro x hx
  unfold partL at hx
  rw [List.mem_filter] at hx
  simpa using hx.1
theorem comps_told {n : Nat} {ars : List Arc2} (hg : graphB (n : Int) ars = true) (hok : ars.all (arcOk (n : Int)) = true) : Told n ars ((compsL n (warsh (arcR ars) n) (n + 1) (fun _ => false)).map numI) := by
  have L := leads_warsh hok
  generalize hW : warsh (arcR ars) n = W at *
  have hl0 : leftN n (fun _ => false) < n + 1 := by
    unfold leftN
    have := List.length_filter_le (fun j => !(fun _ => false : Nat → Bool) j) (List.range n)
    rw [List.length_range] at this
    omega
  obtain ⟨A, B, C, D⟩ := comps_facts L (n + 1) (fun _ => false) (shut_none W) hl0
  have hr : ∀ {a b : Nat}, a < n → b < n → reachB (n : Int) ars (a : Int) (b : Int) = W a b := fun ha hb => by rw [reachB_at hg ha hb, hW]
  generalize compsL n W (n + 1) (fun _ => false) = ps at *
  refine ⟨fun a ha => ?_, fun a b ha hb hab => ?_, fun a b ha hb h1 h2 => ?_, fun k hk => ?_⟩
  · rw [compAt_atP (A a ha rfl)]; omega
  · rw [compAt_atP (A a ha rfl), compAt_atP (A b hb rfl), hr ha hb, hr hb ha, Bool.eq_iff_iff, beq_iff_eq, Bool.and_eq_true]
    have := B a b ha hb rfl rfl
    constructor
    · intro h
      rcases this.1 (by omega) with e | e
      · exact absurd e hab
      · exact e
    · intro h
      have := this.2 (.inr h)
      omega
  · rw [compAt_atP (A a ha rfl), compAt_atP (A b hb rfl)]
    rw [hr ha hb] at h1
    rw [hr hb ha] at h2
    have := C a b ha hb rfl rfl h1 h2
    omega
  · rw [List.length_map] at hk
    obtain ⟨i, hi, e⟩ := D ps[k] (List.getElem_mem hk)
    have hpp := part_pos (n := n) (W := W) hi
    have h0 : 0 < (numI (partL n W i)).length := by rw [numI_len]; exact hpp
    have hm : (partL n W i)[0] ∈ partL n W i := List.getElem_mem hpp
    have hx : (partL n W i)[0] < n := part_lt _ hm
    have key : cycB (n : Int) ars (numI (partL n W i)) = reachB (n : Int) ars ((numI (partL n W i))[0]) ((numI (partL n W i))[0]) := by
      have e0 : (numI (partL n W i))[0] = (((partL n W i)[0] : Nat) : Int) := by simp [numI]
      rw [e0, hr hx hx]
      unfold cycB
      rw [hg, Bool.true_and, Int.toNat_natCast, hW, part_ring L hm]
    have e1 : (ps.map numI)[k]'(by rw [List.length_map]; exact hk) = numI (partL n W i) := by rw [List.getElem_map, e]
    simp only [e1]
    exact ⟨h0, key⟩
end Go.Proofs.Ytfnjllaaadhbbaa
