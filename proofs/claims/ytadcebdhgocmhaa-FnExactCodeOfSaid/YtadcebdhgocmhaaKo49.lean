/- Lemmas for the row. -/
import Derived.Test.YtadcebdhgocmhaaKo20
import Derived.Test.YtadcebdhgocmhaaKo25
import Derived.Test.YtadcebdhgocmhaaKo21
import Derived.Test.YtadcebdhgocmhaaKo10
namespace Go.Proofs.Ytadcebdhgocmhaa
open Go.RowKit
set_option linter.unusedVariables false
def pmarks : List Pr → Nat | [] => 0 | p :: r => 1 + smarkss p.body + pmarks r
theorem pmarks_append (l r : List Pr) : pmarks (l ++ r) = pmarks l + pmarks r := by
  induction l with
  | nil => simp [pmarks]
  | cons y t ih => rw [List.cons_append, pmarks, pmarks, ih]; omega
theorem pmarks_take (l : List Pr) (k : Nat) (h : k < l.length) : pmarks (l.take (k + 1)) = pmarks (l.take k) + (1 + smarkss l[k].body) := by
  have e : l.take (k + 1) = l.take k ++ [l[k]] := List.take_succ_eq_append_getElem h
  rw [e, pmarks_append]; simp [pmarks]
theorem pmarks_take_le (l : List Pr) (k : Nat) : pmarks (l.take k) ≤ pmarks l := by
  have e : pmarks l = pmarks (l.take k) + pmarks (l.drop k) := by rw [← pmarks_append, List.take_append_drop]
  omega
theorem pmarks_tot (l : List Pr) : pmarks l ≤ 5 * totPrs l := by
  induction l with
  | nil => simp [pmarks, totPrs]
  | cons p r ih =>
    have h1 := smarkss_tot p.body
    have h2 : totPr p = p.name.size + totGs p.body := rfl
    rw [pmarks, totPrs]; omega
def markZ (p : Pg) : Nat := p.globals.length + p.locks.length + pmarks p.procs
theorem markZ_tot (p : Pg) : markZ p ≤ 5 * totPg p := by
  have h := pmarks_tot p.procs
  unfold markZ totPg totS
  omega
theorem mkTs_get (k : Nat) (l : List Tm) {i : Nat} (h : i < l.length) : ∀ (h' : i < (mkTs k l).length), (mkTs k l)[i] = mkT (k + 3 * nodess (l.take i)) l[i] := by
  induction l generalizing k i with
  | nil => cases h
  | cons t r ih =>
    intro h'
    cases i with
    | zero => simp [mkTs, nodess]
    | succ i =>
      simp only [mkTs, List.getElem_cons_succ, List.take_succ_cons, nodess]
      rw [ih (k + 3 * nodes t) (by simpa using h)]
      congr 1; omega
abbrev HdC (ts : List Tm) : Prop := ∀ (k : Nat) (A : Option Addr) (c : Nat) (w : World), TmRow AnyB w A (mkTs k ts) → ts.length ≤ c → c ≤ maxLen → 0 < k → k + 3 * nodess ts ≤ 100000000 →
  Calls Try.prog 92 #[.slice A ts.length c, .int .i64 (k : Int)] w fun e w' => e = .returned (.int .i64 ((k + 3 * nodess ts : Nat) : Int)) ∧ Below w.heap.size w w'
set_option maxHeartbeats 1000000 in
set_option maxRecDepth 100000 in
theorem laws_heldTermS_at (ts : List Tm) (ih : ∀ t ∈ ts, ∀ k n s kids, t = .mk k n s kids → HdC kids) : HdC ts := by
  intro k A c w row hl hc h0 h1
  unfold maxLen at hc
  have IH := Lib.hid ih
  have RW := Lib.hid row
  clear ih row
  go_enter Try.func92, Try.ntmps92
  go_wp2_with fail
  go_loopw [1, 5] (fun kk i wr => ∃ j : Nat, j ≤ ts.length ∧ i = .int .i64 j ∧ kk = .int .i64 ((k + 3 * nodess (ts.take j) : Nat) : Int) ∧ Below w.heap.size w wr) (fun _ i _ => ts.length - (intOf i).toNat)
  case atStart => exact ⟨0, Nat.zero_le _, rfl, by simp [nodess], Below.refl _ _⟩
  case round =>
    obtain ⟨j, hj, rfl, rfl, hb⟩ := hrel
    have HB := Lib.hid hb
    clear hb
    by_cases hlt : j < ts.length
    · have hjm : j < (mkTs k ts).length := by rw [mkTs_length]; exact hlt
      obtain ⟨b, off, kd, nn, s, A', m, c', rfl, _, d0, d1, d2, d3, hterm⟩ := rd_term (RW.out.belowA HB.out) hjm
      rw [mkTs_get k ts hlt hjm] at hterm
      obtain ⟨kids', heq', hm, hl', hc', _, _, hs', hrow'⟩ := hterm.inv
      obtain ⟨a0, b0, s0, kids, heq⟩ : ∃ a b s kids, ts[j] = Tm.mk a b s kids := by
        cases ts[j]
        exact ⟨_, _, _, _, rfl⟩
      have hnt := nodess_take ts j hlt
      have hnl := nodess_take_le ts (j + 1)
      have hnk : nodes ts[j] = 1 + nodess kids := by rw [heq, nodes]
      have VK := Lib.hid (IH.out ts[j] (List.getElem_mem hlt) _ _ _ kids heq)
      have HN : Hid (nodess (ts.take (j + 1)) = nodess (ts.take j) + (1 + nodess kids)) := Lib.hid (by omega)
      have hbd : k + 3 * nodess (ts.take j) + 3 + 3 * nodess kids ≤ 100000000 := by omega
      rw [heq, mkT_mk] at heq'
      generalize hK : k + 3 * nodess (ts.take j) = K at *
      injection heq' with e0 e1 e2 e3
      subst e0 e1 e2 e3
      rw [mkTs_length] at hm hl'
      subst hm
      have HK := Lib.hid hK
      have HR' := Lib.hid hrow'
      have hK0 : 0 < K := by omega
      have h0k : (0 : Int) ≤ (j : Int) := by omega
      have h1k : (j : Int) < (ts.length : Int) := by omega
      have h2k : (j : Int) < ((mkTs k ts).length : Int) := by omega
      rw [show ((K + 1 : Nat) : Int) = (K : Int) + 1 from by omega] at d1
      have q0 : (((K : Nat) : Int) != ((K : Nat) : Int)) = false := by simp
      have q1 : ((K : Int) + 1 != (K : Int) + 1) = false := by simp
      have EC : Hid ((K : Int) + 1 + 1 = ((K + 2 : Nat) : Int)) := Lib.hid (by omega)
      have he : ((markT (K + 2)).toList == (markT (K + 2)).toList) = true := by simp
      have hneg : ¬ (((K + 3 + 3 * nodess kids : Nat) : Int) < 0) := by omega
      clear hK hterm hnt hnl hnk heq hjm hs' hrow'
      go_wp2_with fail
      go_region_held3 (fun w' => w'.cell? ⟨b, off + j * 4 + 2, none⟩ = some (.string (markT (K + 2))) ∧ w'.cell? ⟨b, off + j * 4 + 3, none⟩ = some (.slice A' kids.length c'))
        (first | exact ⟨d2, d3⟩ | exact ⟨cell_keep b1 d2, cell_keep b1 d3⟩ | go_keep)
        (first | (go_at_call 89; (try rw [EC.out]); refine (laws_markText (K + 2) _ (by omega) (by omega)).mono ?_; rintro e w1 ⟨rfl, b1⟩) | fail)
      all_goals
        have e3 := cell_keep b1 d3
        have B1 := Lib.hid b1
        go_wp2_with fail
        refine (VK.out (K + 3) A' c' _ ((HR'.out.belowA (Below.refl _ _).drew).belowA B1.out) hl' hc' (by omega) (by omega)).mono ?_
        rintro e w2 ⟨rfl, b2⟩
        have B2 := Lib.hid (below_then (below_then HB.out.drew B1.out) b2)
        clear b2
        go_wp2_with fail
        go_roundw
        case rel => exact ⟨j + 1, by omega, by go_num, by rw [HN.out]; exact congrArg (Value.int .i64) (by have := HK.out; omega), B2.out⟩
        case measure => simp [intOf]; omega
    · go_wp2_with fail
      go_ret
      exact ⟨ret_int (by rw [List.take_of_length_le (by omega)]), HB.out⟩
theorem laws_heldTermS (ts : List Tm) : HdC ts := by
  induction hN : nodess ts using Nat.strongRecOn generalizing ts with
  | ind N ih =>
    refine laws_heldTermS_at ts fun t ht k n s kids e => ?_
    have := nodess_le ht
    have h2 : nodes t = 1 + nodess kids := by rw [e, nodes]
    exact ih _ (by omega) kids rfl
end Go.Proofs.Ytadcebdhgocmhaa
