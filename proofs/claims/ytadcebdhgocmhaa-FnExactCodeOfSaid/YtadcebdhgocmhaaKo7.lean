/- Lemmas for the row. -/
import Derived.Test.YtadcebdhgocmhaaKo6
import Derived.Test.YtadcebdhgocmhaaKo4
namespace Go.Proofs.Ytadcebdhgocmhaa
open Go.RowKit
set_option linter.unusedVariables false
def IsInts (w : World) (v : Value) (zs : List Int) : Prop := ∃ A c, v = .slice A zs.length c ∧ zs.length ≤ c ∧ c ≤ maxLen ∧ Rd w 1 A zs.length (zs.map (Value.int .i64))
theorem IsInts.below {w w' : World} {v : Value} {zs : List Int} (h : IsInts w v zs) (hb : Below w.heap.size w w') : IsInts w' v zs := by
  obtain ⟨A, c, e, h1, h2, h3⟩ := h
  exact ⟨A, c, e, h1, h2, h3.below hb⟩
theorem rd_int {w : World} {A : Option Addr} {zs : List Int} (rd : Rd w 1 A zs.length (zs.map (Value.int .i64))) {k : Nat} (hk : k < zs.length) : ∃ b off, A = some ⟨b, off, none⟩ ∧ w.cell? ⟨b, off + k, none⟩ = some (.int .i64 zs[k]) := by
  obtain ⟨b, off, e, hc⟩ := rd.2 (by omega)
  exact ⟨b, off, e, hc k _ (by simp [hk])⟩
def IsIntsF (lo : Nat) (w : World) (v : Value) (zs : List Int) : Prop := ∃ A c, v = .slice A zs.length c ∧ zs.length ≤ c ∧ c ≤ maxLen ∧ Rd w 1 A zs.length (zs.map (Value.int .i64)) ∧ ∀ b off, A = some ⟨b, off, none⟩ → 0 < zs.length → lo ≤ b
theorem IsIntsF.is {lo : Nat} {w : World} {v : Value} {zs : List Int} (h : IsIntsF lo w v zs) : IsInts w v zs := by
  obtain ⟨A, c, e, h1, h2, h3, _⟩ := h
  exact ⟨A, c, e, h1, h2, h3⟩
theorem IsIntsF.below {lo : Nat} {w w' : World} {v : Value} {zs : List Int} (h : IsIntsF lo w v zs) (hb : Below w.heap.size w w') : IsIntsF lo w' v zs := by
  obtain ⟨A, c, e, h1, h2, h3, h4⟩ := h
  exact ⟨A, c, e, h1, h2, h3.below hb, h4⟩
theorem Rd.set_other {w : World} {sz n : Nat} {A : Option Addr} {xs : List Value} (h : Rd w sz A n xs) {p : Addr} (hp : ∀ b off, A = some ⟨b, off, none⟩ → 0 < n → b ≠ p.block) (u : Value) : Rd (w.setCell p u) sz A n xs :=
  ⟨h.1, fun hn => by
    obtain ⟨b, off, e, hc⟩ := h.2 hn
    exact ⟨b, off, e, fun j v hv => by rw [World.cell?_setCell_other w p _ u (fun e2 => by subst e2; exact hp b off e hn rfl)]; exact hc j v hv⟩⟩
theorem IsIntsF.set_other {lo : Nat} {w : World} {v : Value} {zs : List Int} (h : IsIntsF lo w v zs) {p : Addr} (hp : p.block < lo) (u : Value) : IsIntsF lo (w.setCell p u) v zs := by
  obtain ⟨A, c, e, h1, h2, h3, h4⟩ := h
  exact ⟨A, c, e, h1, h2, h3.set_other (fun b off hb hn => by have := h4 b off hb hn; omega) u, h4⟩
theorem IsIntsF.of_own {w0 w : World} {e : TypeId} {v : Value} {zs : List Int} {lo : Nat} (h : Own w0 w e 1 v zs.length (zs.map (Value.int .i64))) (hlo : lo ≤ w0.heap.size) : IsIntsF lo w v zs := by
  obtain ⟨A, c, rfl, hc⟩ := h.slice
  refine ⟨A, c, rfl, hc, own_cap' h, h.rd, fun b off hb hn => ?_⟩
  subst hb
  have := (h.1.lt b rfl).1
  omega
def IsIntss (w : World) (v : Value) (zss : List (List Int)) : Prop := IsRowsR 1 (fun cs zs => ∃ u, cs = [u] ∧ IsInts w u zs) w v zss
theorem IsIntss.below {w w' : World} {v : Value} {zss : List (List Int)} (h : IsIntss w v zss) (hb : Below w.heap.size w w') : IsIntss w' v zss := by
  obtain ⟨A, c, cs, e, h1, h2, rd, hx⟩ := h
  refine ⟨A, c, cs, e, h1, h2, rd.below hb, fun k hk => ?_⟩
  obtain ⟨u, e1, hu⟩ := hx k hk
  exact ⟨u, e1, hu.below hb⟩
theorem intT : ElemT Try.prog 45 3 1 8 := ElemT.mk' (z := .int .i64 0) Try.underlying45 (by kernel_rfl) rfl (by decide)
set_option maxHeartbeats 400000 in
theorem laws_eqIntS (v u : Value) (ss tt : List Int) (w : World) (h : IsInts w v ss) (h' : IsInts w u tt) :
    Calls Try.prog 52 #[v, u] w fun e w' => e = .returned (.bool (decide (ss = tt))) ∧ Qt w w' := by
  obtain ⟨A, c, rfl, h2, h3, rd⟩ := h
  obtain ⟨A', c', rfl, h2', h3', rd'⟩ := h'
  unfold maxLen at h3 h3'
  have RD := Lib.hid rd
  have RD' := Lib.hid rd'
  clear rd rd'
  by_cases g0 : ss.length = tt.length
  · have g1 : ((ss.length : Int) != (tt.length : Int)) = false := by simp [g0]
    have G := Lib.hid g0
    clear g0
    go_enter Try.func52, Try.ntmps52
    go_wp2_with fail
    go_loopw [5] (fun i wr => ∃ (k m : Nat), k ≤ ss.length ∧ i = .int .i64 k ∧ wr = w.drewN m ∧ Hid (ss.take k = tt.take k)) (fun i _ => ss.length - (intOf i).toNat)
    case atStart => exact ⟨0, 0, Nat.zero_le _, rfl, rfl, Lib.hid rfl⟩
    case round =>
      obtain ⟨k, m, hk, rfl, rfl, HT⟩ := hrel
      by_cases hlt : k < ss.length
      · have hlt' : k < tt.length := by rw [← G.out]; exact hlt
        obtain ⟨b, off, rfl, hcell⟩ := rd_int RD.out hlt
        obtain ⟨b', off', rfl, hcell'⟩ := rd_int RD'.out hlt'
        have h0k : (0 : Int) ≤ (k : Int) := by omega
        have h1k : (k : Int) < (ss.length : Int) := by omega
        have h2k : (k : Int) < (tt.length : Int) := by omega
        by_cases e : ss[k] = tt[k]
        · have HE := Lib.hid e
          have q : (ss[k] != tt[k]) = false := by simp [e]
          clear e
          go_wp2_with fail
          go_quiet (fail)
          go_wp2_with fail
          go_roundw
          case rel => exact ⟨k + 1, _, by omega, by go_num, rfl, Lib.hid (take_eq_succ HT.out hlt hlt' HE.out)⟩
          case measure => simp [intOf]; omega
        · have HE := Lib.hid e
          have q : (ss[k] != tt[k]) = true := by simpa using e
          clear e
          go_wp2_with fail
          go_quiet (fail)
          go_wp2_with fail
          go_ret
          exact ⟨ret_bool (decide_no (fun e => HE.out (by subst e; rfl))).symm, (Qt.of_drewN _ _).trans (Qt.of_drewN _ _)⟩
      · go_wp2_with fail
        go_ret
        have e : ss = tt := by
          have := HT.out
          rwa [List.take_of_length_le (by omega), List.take_of_length_le (by rw [← G.out]; omega)] at this
        exact ⟨ret_bool (decide_eq_true e).symm, ⟨_, rfl⟩⟩
  · have g1 : ((ss.length : Int) != (tt.length : Int)) = true := by simp; omega
    have G := Lib.hid g0
    clear g0
    go_enter Try.func52, Try.ntmps52
    go_wp2_with fail
    go_ret
    exact ⟨ret_bool (decide_no (fun e => G.out (by rw [e]))).symm, Qt.refl _⟩
end Go.Proofs.Ytadcebdhgocmhaa
