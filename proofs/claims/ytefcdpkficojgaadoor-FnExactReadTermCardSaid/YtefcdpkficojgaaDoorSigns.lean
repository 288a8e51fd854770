/- The laws' helpers on rows of signs: comparing, marking, holding the marks against it. -/
import Derived.Test.YtefcdpkficojgaaDoorLexSpec
import Derived.Test.YtefcdpkficojgaaDoorMark
import Derived.Test.YtefcdpkficojgaaDoorFlat
namespace Go.Proofs.YtefcdpkficojgaaDoor
open Go.RowKit
set_option linter.unusedVariables false

/-- v is a slice that reads as signs -/
def IsSgs (w : World) (v : Value) (l : List Sg) : Prop := ∃ A c, v = .slice A l.length c ∧ l.length ≤ c ∧ c ≤ maxLen ∧ Rd w 3 A l.length (l.flatMap sgF)
theorem IsSgs.below {w w' : World} {v : Value} {l : List Sg} (h : IsSgs w v l) (hb : Below w.heap.size w w') : IsSgs w' v l := by
  obtain ⟨A, c, e, h1, h2, h3⟩ := h
  exact ⟨A, c, e, h1, h2, h3.below hb⟩
theorem OutS.is {w0 w : World} {v : Value} {l : List Sg} (h : OutS w0 w v l) : IsSgs w v l := by
  obtain ⟨A, c, rfl, hc⟩ := Own.slice h
  exact ⟨A, c, rfl, hc, own_cap h.1, Own.rd h⟩
theorem rd_sg {w : World} {A : Option Addr} {l : List Sg} (rd : Rd w 3 A l.length (l.flatMap sgF)) {k : Nat} (hk : k < l.length) :
    ∃ b off, A = some ⟨b, off, none⟩ ∧ w.cell? ⟨b, off + k * 3, none⟩ = some (.int .i64 l[k].k) ∧ w.cell? ⟨b, off + k * 3 + 1, none⟩ = some (.string l[k].t) ∧ w.cell? ⟨b, off + k * 3 + 2, none⟩ = some (.int .i64 (l[k].p : Int)) := by
  obtain ⟨b, off, e, hc⟩ := rd.2 (by omega)
  refine ⟨b, off, e, ?_, ?_, ?_⟩
  · have := hc (k * 3) _ ((flat_get sgF 3 sgF_len l k 0 hk (by omega)).trans rfl)
    exact this
  · have := hc (k * 3 + 1) _ ((flat_get sgF 3 sgF_len l k 1 hk (by omega)).trans rfl)
    rw [Nat.add_assoc]; exact this
  · have := hc (k * 3 + 2) _ ((flat_get sgF 3 sgF_len l k 2 hk (by omega)).trans rfl)
    rw [Nat.add_assoc]; exact this
def mkSg (k i : Nat) : Sg := ⟨((k + 3 * i : Nat) : Int), markT (k + 3 * i + 1), k + 3 * i + 2⟩
/-- the signs that markSignS leaves: from k on -/
def marksG (n k : Nat) : List Sg := (List.range n).map (mkSg k)
theorem marksG_length (n k : Nat) : (marksG n k).length = n := by simp [marksG]
def mixG (l : List Sg) (k i : Nat) : List Sg := (marksG l.length k).take i ++ l.drop i
theorem mixG_zero (l : List Sg) (k : Nat) : mixG l k 0 = l := by simp [mixG]
theorem mixG_all (l : List Sg) (k : Nat) : mixG l k l.length = marksG l.length k := by
  unfold mixG; rw [List.take_of_length_le (by rw [marksG_length]; exact Nat.le_refl _)]; simp
theorem mixG_length (l : List Sg) (k i : Nat) (h : i ≤ l.length) : (mixG l k i).length = l.length := by simp [mixG, marksG_length]; omega
theorem mixG_set (l : List Sg) (k i : Nat) (h : i < l.length) : (mixG l k i).set i (mkSg k i) = mixG l k (i + 1) := by
  unfold mixG
  have hl : ((marksG l.length k).take i).length = i := by simp [marksG_length]; omega
  have h1 : i < (marksG l.length k).length := by rw [marksG_length]; exact h
  have e2 : (marksG l.length k).take (i + 1) = (marksG l.length k).take i ++ [(marksG l.length k)[i]] := List.take_succ_eq_append_getElem h1
  rw [List.set_append_right _ _ (by omega), hl, Nat.sub_self, List.drop_eq_getElem_cons h, List.set_cons_zero, e2, List.append_assoc]
  simp [marksG]
theorem marksG_at (n k i : Nat) (h : i < (marksG n k).length) : (marksG n k)[i] = mkSg k i := by simp [marksG]
theorem laws_eqFault (a c : Int) (w : World) : Calls Tryd.prog 14 #[.agg #[.int .i64 a, .int .i64 c], .agg #[.int .i64 a, .int .i64 c]] w fun e w' => e = .returned (.bool true) ∧ Below w.heap.size w w' := by
  have q1 : (a != a) = false := by simp
  have q2 : (c != c) = false := by simp
  go_enter Tryd.func14, Tryd.ntmps14
  go_wp2_with fail
  go_ret
  exact ⟨rfl, (by repeat' (first | exact Below.refl _ _ | exact Nat.le_refl _ | (refine Below.alloc ?_ ?_ _) | (refine Below.setCell ?_ ?_ _) | (refine Below.drew ?_) | (refine below_drewN ?_ _) | assumption | (simp; done) | (simp; omega)))⟩
theorem marksG_get (n k i : Nat) (h : i < n) : ∀ (h2 : i < (marksG n k).length), (marksG n k)[i] = mkSg k i := fun h2 => marksG_at n k i h2
end Go.Proofs.YtefcdpkficojgaaDoor
