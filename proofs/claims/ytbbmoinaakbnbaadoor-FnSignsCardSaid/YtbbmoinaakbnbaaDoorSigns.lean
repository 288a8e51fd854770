/- The laws' helpers on rows of signs: comparing, marking, holding the marks against it. -/
import Derived.Test.YtbbmoinaakbnbaaDoorLexSpec
import Derived.Test.YtbbmoinaakbnbaaDoorMark
import Derived.Test.YtbbmoinaakbnbaaDoorFlat
namespace Go.Proofs.YtbbmoinaakbnbaaDoor
open Go.RowKit
set_option linter.unusedVariables false

/-- v is a slice that reads as signs -/
def IsSgs (w : World) (v : Value) (l : List Sg) : Prop := ∃ A c, v = .slice A l.length c ∧ l.length ≤ c ∧ c ≤ maxLen ∧ Rd w 3 A l.length (l.flatMap sgF)
theorem IsSgs.below {w w' : World} {v : Value} {l : List Sg} (h : IsSgs w v l) (hb : Below w.heap.size w w') : IsSgs w' v l := by
  obtain ⟨A, c, e, h1, h2, h3⟩ := h
  exact ⟨A, c, e, h1, h2, h3.below hb⟩
theorem OutS.is {w0 w : World} {v : Value} {l : List Sg} (h : OutS w0 w v l) : IsSgs w v l := by
  obtain ⟨A, c, rfl, hc⟩ := Own.slice h
  exact ⟨A, c, rfl, hc, own_cap h.1, Own.rd h⟩
theorem rd_sg {w : World} {A : Option Addr} {l : List Sg} (rd : Rd w 3 A l.length (l.flatMap sgF)) {k : Nat} (hk : k < l.length) :
    ∃ b off, A = some ⟨b, off, none⟩ ∧ w.cell? ⟨b, off + k * 3, none⟩ = some (.int .i64 l[k].k) ∧ w.cell? ⟨b, off + k * 3 + 1, none⟩ = some (.string l[k].t) ∧ w.cell? ⟨b, off + k * 3 + 2, none⟩ = some (.int .i64 (l[k].p : Int)) := by
  obtain ⟨b, off, e, hc⟩ := rd.2 (by omega)
  refine ⟨b, off, e, ?_, ?_, ?_⟩
  · have := hc (k * 3) _ ((flat_get sgF 3 sgF_len l k 0 hk (by omega)).trans rfl)
    exact this
  · have := hc (k * 3 + 1) _ ((flat_get sgF 3 sgF_len l k 1 hk (by omega)).trans rfl)
    rw [Nat.add_assoc]; exact this
  · have := hc (k * 3 + 2) _ ((flat_get sgF 3 sgF_len l k 2 hk (by omega)).trans rfl)
    rw [Nat.add_assoc]; exact this
def mkSg (k i : Nat) : Sg := ⟨((k + 3 * i : Nat) : Int), markT (k + 3 * i + 1), k + 3 * i + 2⟩
/-- the signs that markSignS leaves: from k on -/
def marksG (n k : Nat) : List Sg := (List.range n).map (mkSg k)
theorem marksG_length (n k : Nat) : (marksG n k).length = n := by simp [marksG]
def mixG (l : List Sg) (k i : Nat) : List Sg := (marksG l.length k).take i ++ l.drop i
theorem mixG_zero (l : List Sg) (k : Nat) : mixG l k 0 = l := by simp [mixG]
theorem mixG_all (l : List Sg) (k : Nat) : mixG l k l.length = marksG l.length k := by
  unfold mixG; rw [List.take_of_length_le (by rw [marksG_length]; exact Nat.le_refl _)]; simp
theorem mixG_length (l : List Sg) (k i : Nat) (h : i ≤ l.length) : (mixG l k i).length = l.length := by simp [mixG, marksG_length]; omega
theorem mixG_set (l : List Sg) (k i : Nat) (h : i < l.length) : (mixG l k i).set i (mkSg k i) = mixG l k (i + 1) := by
  unfold mixG
  have hl : ((marksG l.length k).take i).length = i := by simp [marksG_length]; omega
  have h1 : i < (marksG l.length k).length := by rw [marksG_length]; exact h
  have e2 : (marksG l.length k).take (i + 1) = (marksG l.length k).take i ++ [(marksG l.length k)[i]] := List.take_succ_eq_append_getElem h1
  rw [List.set_append_right _ _ (by omega), hl, Nat.sub_self, List.drop_eq_getElem_cons h, List.set_cons_zero, e2, List.append_assoc]
  simp [marksG]
theorem marksG_at (n k i : Nat) (h : i < (marksG n k).length) : (marksG n k)[i] = mkSg k i := by simp [marksG]
theorem laws_eqSign (a c : Int) (t : ByteArray) (w : World) : Calls Tryd.prog 35 #[.agg #[.int .i64 a, .string t, .int .i64 c], .agg #[.int .i64 a, .string t, .int .i64 c]] w fun e w' => e = .returned (.bool true) ∧ Below w.heap.size w w' := by
  have q1 : (a != a) = false := by simp
  have q2 : (c != c) = false := by simp
  have q := str_eq t t
  rw [decide_eq_true rfl] at q
  go_enter Tryd.func35, Tryd.ntmps35
  go_wp2_with fail
  go_ret
  exact ⟨rfl, (by repeat' (first | exact Below.refl _ _ | exact Nat.le_refl _ | (refine Below.alloc ?_ ?_ _) | (refine Below.setCell ?_ ?_ _) | (refine Below.drew ?_) | (refine below_drewN ?_ _) | assumption | (simp; done) | (simp; omega)))⟩
theorem laws_eqFault (a c : Int) (w : World) : Calls Tryd.prog 14 #[.agg #[.int .i64 a, .int .i64 c], .agg #[.int .i64 a, .int .i64 c]] w fun e w' => e = .returned (.bool true) ∧ Below w.heap.size w w' := by
  have q1 : (a != a) = false := by simp
  have q2 : (c != c) = false := by simp
  go_enter Tryd.func14, Tryd.ntmps14
  go_wp2_with fail
  go_ret
  exact ⟨rfl, (by repeat' (first | exact Below.refl _ _ | exact Nat.le_refl _ | (refine Below.alloc ?_ ?_ _) | (refine Below.setCell ?_ ?_ _) | (refine Below.drew ?_) | (refine below_drewN ?_ _) | assumption | (simp; done) | (simp; omega)))⟩
set_option maxHeartbeats 800000 in
theorem laws_eqSignS (v u : Value) (l : List Sg) (w : World) (h : IsSgs w v l) (h' : IsSgs w u l) : Calls Tryd.prog 13 #[v, u] w fun e w' => e = .returned (.bool true) ∧ Below w.heap.size w w' := by
  obtain ⟨A, c, rfl, h2, h3, rd⟩ := h
  obtain ⟨A', c', rfl, h2', h3', rd'⟩ := h'
  unfold maxLen at h3 h3'
  have RD := Lib.hid rd
  have RD' := Lib.hid rd'
  clear rd rd'
  have g1 : ((l.length : Int) != (l.length : Int)) = false := by simp
  go_enter Tryd.func13, Tryd.ntmps13
  go_wp2_with fail
  go_loopw [5] (fun i wr => ∃ k : Nat, k ≤ l.length ∧ i = .int .i64 k ∧ Hid (Below w.heap.size w wr)) (fun i _ => l.length - (intOf i).toNat)
  case atStart => exact ⟨0, Nat.zero_le _, rfl, Lib.hid (Below.refl _ _)⟩
  case round =>
    obtain ⟨k, hk, rfl, HB⟩ := hrel
    by_cases hlt : k < l.length
    · obtain ⟨b, off, rfl, d0, d1, d2⟩ := rd_sg (RD.out.below HB.out) hlt
      obtain ⟨b', off', rfl, e0, e1, e2⟩ := rd_sg (RD'.out.below HB.out) hlt
      have h0k : (0 : Int) ≤ (k : Int) := by omega
      have h1k : (k : Int) < (l.length : Int) := by omega
      generalize l[k] = x at *
      obtain ⟨xa, xt, xc⟩ := x
      simp only at d0 d1 d2 e0 e1 e2
      go_wp2_with fail
      go_region_held3 (fun w' => w'.cell? ⟨b, off + k * 3, none⟩ = some (.int .i64 xa) ∧ w'.cell? ⟨b, off + k * 3 + 1, none⟩ = some (.string xt) ∧ w'.cell? ⟨b, off + k * 3 + 2, none⟩ = some (.int .i64 (xc : Int)) ∧ w'.cell? ⟨b', off' + k * 3, none⟩ = some (.int .i64 xa) ∧ w'.cell? ⟨b', off' + k * 3 + 1, none⟩ = some (.string xt) ∧ w'.cell? ⟨b', off' + k * 3 + 2, none⟩ = some (.int .i64 (xc : Int)))
        (first | exact ⟨d0, d1, d2, e0, e1, e2⟩ | exact ⟨cell_keep b1 d0, cell_keep b1 d1, cell_keep b1 d2, cell_keep b1 e0, cell_keep b1 e1, cell_keep b1 e2⟩ | go_keep)
        (first | (go_at_call 35; refine (laws_eqSign xa (xc : Int) xt _).mono ?_; rintro e w1 ⟨rfl, b1⟩) | fail)
      all_goals
        go_wp2_with fail
        go_roundw
        case rel => exact ⟨k + 1, by omega, by go_num, Lib.hid (HB.out.drew.trans (b1.mono HB.out.size))⟩
        case measure => simp [intOf]; omega
    · go_wp2_with fail
      go_ret
      exact ⟨rfl, HB.out⟩
set_option maxHeartbeats 800000 in
theorem laws_markSignS (v : Value) (l : List Sg) (k : Nat) (w0 w : World) (own : OutS w0 w v l) (h0 : 0 < k) (h1 : l.length ≤ 1000000) (h2 : k ≤ 100000000) :
    Calls Tryd.prog 15 #[v, .int .i64 (k : Int)] w fun e w' => e = .returned (.int .i64 ((k + 3 * l.length : Nat) : Int)) ∧ OutS w0 w' v (marksG l.length k) := by
  obtain ⟨A, c, rfl, hc⟩ := Own.slice own
  have OW := Lib.hid own
  clear own
  go_enter Tryd.func15, Tryd.ntmps15
  go_wp2_with fail
  go_loopw [1, 5] (fun n i wr => ∃ m : Nat, m ≤ l.length ∧ i = .int .i64 m ∧ n = .int .i64 ((k + 3 * m : Nat) : Int) ∧ Own w0 wr 46 3 (.slice A l.length c) l.length ((mixG l k m).flatMap sgF)) (fun _ i _ => l.length - (intOf i).toNat)
  case atStart => exact ⟨0, Nat.zero_le _, rfl, rfl, by rw [mixG_zero]; exact OW.out⟩
  case round =>
    obtain ⟨m, hm, rfl, rfl, own⟩ := hrel
    have OR := Lib.hid own
    clear own
    by_cases hlt : m < l.length
    · obtain ⟨g, cap, hv, _, _⟩ := OR.out.1.form (by omega)
      have hA : A = some ⟨g, 0, none⟩ := by injection hv
      subst hA
      clear hv
      have h0m : (0 : Int) ≤ (m : Int) := by omega
      have hl : m < (mixG l k m).length := by rw [mixG_length _ _ _ (by omega)]; exact hlt
      have e1 := flat_sets sgF 3 sgF_len (mixG l k m) m hl (mkSg k m)
      rw [mixG_set _ _ _ hlt] at e1
      have E1 := Lib.hid e1
      clear e1
      generalize hX : mixG l k m = X at *
      clear hX
      have hXl : (X.flatMap sgF).length = X.length * 3 := flat_length sgF 3 sgF_len X
      have c0 : ∃ u, wr.cell? ⟨g, m * 3, none⟩ = some u := ⟨_, OR.out.cellAt (j := m * 3) (by omega) ((flat_get sgF 3 sgF_len X m 0 hl (by omega)).trans rfl)⟩
      obtain ⟨u0, c0⟩ := c0
      have f0 := OR.out.freeAt (m * 3)
      have O1 := Lib.hid (OR.out.set (m * 3) (.int .i64 ((k + 3 * m : Nat) : Int)))
      go_wp2_with fail
      have e : (((k + 3 * m : Nat) : Int) + 1) = ((k + 3 * m + 1 : Nat) : Int) := by omega
      first | rw [e] | (rw [show ((k : Int) + 3 * (m : Int) + 1) = ((k + 3 * m + 1 : Nat) : Int) from by omega])
      refine (laws_markText (k + 3 * m + 1) _ (by omega) (by omega)).mono ?_
      rintro e w1 ⟨rfl, b1⟩
      have O1b := Lib.hid (O1.out.below b1)
      obtain ⟨u1, c1⟩ : ∃ u, w1.cell? ⟨g, m * 3 + 1, none⟩ = some u := ⟨_, O1b.out.cellAt (j := m * 3 + 1) (by omega) ((List.getElem?_set_ne (by omega)).trans ((flat_get sgF 3 sgF_len X m 1 hl (by omega)).trans rfl))⟩
      have f1 := O1b.out.freeAt (m * 3 + 1)
      have O2 := Lib.hid (O1b.out.set (m * 3 + 1) (.string (markT (k + 3 * m + 1))))
      obtain ⟨u2, c2⟩ : ∃ u, (w1.setCell ⟨g, m * 3 + 1, none⟩ (.string (markT (k + 3 * m + 1)))).cell? ⟨g, m * 3 + 2, none⟩ = some u := ⟨_, O2.out.cellAt (j := m * 3 + 2) (by omega) ((List.getElem?_set_ne (by omega)).trans ((List.getElem?_set_ne (by omega)).trans ((flat_get sgF 3 sgF_len X m 2 hl (by omega)).trans rfl)))⟩
      have f2 := O2.out.freeAt (m * 3 + 2)
      have O3 := Lib.hid (O2.out.set (m * 3 + 2) (.int .i64 ((k + 3 * m + 2 : Nat) : Int)))
      go_wp2_with fail
      go_roundw
      case rel =>
        refine ⟨m + 1, by omega, by go_num, by go_num, ?_⟩
        have e3 := E1.out
        have O4 := O3.out
        rw [← e3]
        exact O4
      case measure => simp [intOf]; omega
    · have e : m = l.length := by omega
      have OE := OR.out
      rw [e, mixG_all] at OE
      have O2 := Lib.hid OE
      have HE := Lib.hid e
      clear OE e OR OW
      go_wp2_with fail
      go_ret
      exact ⟨ret_int (by rw [HE.out]), by unfold OutS; rw [marksG_length]; exact O2.out⟩
theorem marksG_get (n k i : Nat) (h : i < n) : ∀ (h2 : i < (marksG n k).length), (marksG n k)[i] = mkSg k i := fun h2 => marksG_at n k i h2
set_option maxHeartbeats 800000 in
theorem laws_heldSignS (v : Value) (n k : Nat) (w : World) (h : IsSgs w v (marksG n k)) (h0 : 0 < k) (h1 : n ≤ 1000000) (h2 : k ≤ 100000000) :
    Calls Tryd.prog 16 #[v, .int .i64 (k : Int)] w fun e w' => e = .returned (.int .i64 ((k + 3 * n : Nat) : Int)) ∧ Below w.heap.size w w' := by
  obtain ⟨A, c, rfl, h3, h4, rd⟩ := h
  have hn := marksG_length n k
  have RD := Lib.hid rd
  clear rd
  rw [hn] at h3
  have e0 : (Value.slice A (marksG n k).length c) = .slice A n c := by rw [hn]
  rw [e0]
  clear e0
  go_enter Tryd.func16, Tryd.ntmps16
  go_wp2_with fail
  go_loopw [1, 5] (fun x i wr => ∃ m : Nat, m ≤ n ∧ i = .int .i64 m ∧ x = .int .i64 ((k + 3 * m : Nat) : Int) ∧ Below w.heap.size w wr) (fun _ i _ => n - (intOf i).toNat)
  case atStart => exact ⟨0, Nat.zero_le _, rfl, rfl, Below.refl _ _⟩
  case round =>
    obtain ⟨m, hm, rfl, rfl, hb⟩ := hrel
    have HB := Lib.hid hb
    clear hb
    by_cases hlt : m < n
    · obtain ⟨b, off, rfl, d0, d1, d2⟩ := rd_sg (RD.out.below HB.out) (k := m) (by rw [hn]; exact hlt)
      rw [marksG_at] at d0 d1 d2
      simp only [mkSg] at d0 d1 d2
      have h0m : (0 : Int) ≤ (m : Int) := by omega
      have h1m : (m : Int) < (n : Int) := by omega
      have q0 : (((k + 3 * m : Nat) : Int) != ((k + 3 * m : Nat) : Int)) = false := by simp
      have ec : ((k + 3 * m : Nat) : Int) + 1 = ((k + 3 * m + 1 : Nat) : Int) := by omega
      have EC := Lib.hid ec
      have EC2 : Hid ((k : Int) + 3 * (m : Int) + 1 = ((k + 3 * m + 1 : Nat) : Int)) := Lib.hid (by omega)
      clear ec hn
      have he : ((markT (k + 3 * m + 1)).toList == (markT (k + 3 * m + 1)).toList) = true := by simp
      go_wp2_with fail
      go_region_held3 (fun w' => w'.cell? ⟨b, off + m * 3 + 1, none⟩ = some (.string (markT (k + 3 * m + 1))) ∧ w'.cell? ⟨b, off + m * 3 + 2, none⟩ = some (.int .i64 ((k + 3 * m + 2 : Nat) : Int)))
        (first | exact ⟨d1, d2⟩ | exact ⟨cell_keep b1 d1, cell_keep b1 d2⟩ | go_keep)
        (first | (go_at_call 36; (first | rw [EC.out] | rw [EC2.out]); refine (laws_markText (k + 3 * m + 1) _ (by omega) (by omega)).mono ?_; rintro e w1 ⟨rfl, b1⟩) | fail)
      all_goals
        go_wp2_with fail
        go_roundw
        case rel => exact ⟨m + 1, by omega, by go_num, by go_num, HB.out.drew.trans (b1.mono HB.out.size)⟩
        case measure => simp [intOf]; omega
    · go_wp2_with fail
      go_ret
      exact ⟨ret_int (by omega), HB.out⟩
end Go.Proofs.YtbbmoinaakbnbaaDoor
