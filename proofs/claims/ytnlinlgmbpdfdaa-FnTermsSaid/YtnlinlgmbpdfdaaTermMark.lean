/- Marking terms, and asking whether the marks are held. -/
import Derived.Test.YtnlinlgmbpdfdaaTermOwn
namespace Go.Proofs.Ytnlinlgmbpdfdaa
open Go.RowKit
set_option linter.unusedVariables false

mutual
/-- a term of the same form whose cells hold the marks from k on -/
def mkT (k : Nat) : Tm → Tm
  | .mk _ _ _ kids => .mk (k : Int) ((k + 1 : Nat) : Int) (markT (k + 2)) (mkTs (k + 3) kids)
def mkTs (k : Nat) : List Tm → List Tm
  | [] => []
  | t :: r => mkT k t :: mkTs (k + 3 * nodes t) r
end
theorem mkTs_length (k : Nat) (l : List Tm) : (mkTs k l).length = l.length := by
  induction l generalizing k with
  | nil => simp [mkTs]
  | cons t r ih => simp [mkTs, ih]
theorem nodess_append (l r : List Tm) : nodess (l ++ r) = nodess l + nodess r := by
  induction l with
  | nil => simp [nodess]
  | cons y t ih => rw [List.cons_append, nodess, nodess, ih]; omega
theorem mkTs_append (k : Nat) (l r : List Tm) : mkTs k (l ++ r) = mkTs k l ++ mkTs (k + 3 * nodess l) r := by
  induction l generalizing k with
  | nil => simp [mkTs, nodess]
  | cons y t ih => rw [List.cons_append, mkTs, mkTs, ih, nodess, List.cons_append]; congr 3; omega
theorem nodess_take (l : List Tm) (i : Nat) (h : i < l.length) : nodess (l.take (i + 1)) = nodess (l.take i) + nodes l[i] := by
  have e : l.take (i + 1) = l.take i ++ [l[i]] := List.take_succ_eq_append_getElem h
  rw [e, nodess_append]; simp [nodess]
theorem nodess_take_le (l : List Tm) (i : Nat) : nodess (l.take i) ≤ nodess l := by
  have e : nodess l = nodess (l.take i) + nodess (l.drop i) := by rw [← nodess_append, List.take_append_drop]
  omega
mutual
theorem nodes_tot : (t : Tm) → nodes t ≤ 1 + totT t
  | .mk k n s kids => by rw [nodes, totT]; have := nodess_tot kids; omega
theorem nodess_tot : (l : List Tm) → nodess l ≤ totTs l
  | [] => by simp [nodess, totTs]
  | t :: r => by rw [nodess, totTs]; have := nodes_tot t; have := nodess_tot r; omega
end
/-- the first i of them marked -/
def mixT (k : Nat) (l : List Tm) (i : Nat) : List Tm := mkTs k (l.take i) ++ l.drop i
theorem mixT_zero (k : Nat) (l : List Tm) : mixT k l 0 = l := by simp [mixT, mkTs]
theorem mixT_all (k : Nat) (l : List Tm) {i : Nat} (h : l.length ≤ i) : mixT k l i = mkTs k l := by simp [mixT, List.take_of_length_le h, List.drop_of_length_le h]
theorem mixT_length (k : Nat) (l : List Tm) {i : Nat} (h : i ≤ l.length) : (mixT k l i).length = l.length := by simp [mixT, mkTs_length]; omega
theorem mixT_get (k : Nat) (l : List Tm) {i : Nat} (h : i < l.length) (h' : i < (mixT k l i).length) : (mixT k l i)[i] = l[i] := by
  have hl : (mkTs k (l.take i)).length = i := by rw [mkTs_length, List.length_take]; omega
  have e : (mixT k l i)[i]? = some l[i] := by unfold mixT; rw [List.getElem?_append_right (by omega), hl, Nat.sub_self, List.getElem?_drop]; simp [h]
  rw [List.getElem?_eq_getElem h'] at e
  injection e
theorem mixT_set (k : Nat) (l : List Tm) {i : Nat} (h : i < l.length) : (mixT k l i).set i (mkT (k + 3 * nodess (l.take i)) l[i]) = mixT k l (i + 1) := by
  have hl : (mkTs k (l.take i)).length = i := by rw [mkTs_length, List.length_take]; omega
  have e : l.take (i + 1) = l.take i ++ [l[i]] := List.take_succ_eq_append_getElem h
  unfold mixT
  rw [e, mkTs_append, List.set_append_right _ _ (by omega), hl, Nat.sub_self, List.drop_eq_getElem_cons h, List.set_cons_zero, List.append_assoc]
  simp [mkTs]
theorem TmO.keepP : ∀ w w' G cells x, TmO w G cells x → (∀ b, G b → w'.heap[b]? = w.heap[b]?) → TmO w' G cells x := fun _ _ _ _ _ h hk => h.keep hk
theorem markT_size (k : Nat) : (markT k).size = 1 + (decL k).length := by simp [markT, ByteArray.size]; omega
theorem decL_len (k : Nat) : (decL k).length ≤ k := by
  induction k using Nat.strongRecOn with
  | ind k ih =>
    rcases Nat.eq_zero_or_pos k with rfl | h
    · rw [decL_zero]; simp
    · rw [decL_pos h, List.length_append]
      have := ih (k / 10) (by omega)
      simp
      omega
theorem markT_le {k : Nat} (h : k ≤ 100000000) : (markT k).size ≤ maxLen := by
  rw [markT_size]; have := decL_len k; unfold maxLen; omega
theorem i64_nat {k : Nat} (h : k ≤ 100000000) : i64in (k : Int) := by unfold i64in; omega
theorem mkT_mk (k : Nat) (a b : Int) (s : ByteArray) (kids : List Tm) : mkT k (.mk a b s kids) = .mk (k : Int) ((k + 1 : Nat) : Int) (markT (k + 2)) (mkTs (k + 3) kids) := by rw [mkT]
end Go.Proofs.Ytnlinlgmbpdfdaa
