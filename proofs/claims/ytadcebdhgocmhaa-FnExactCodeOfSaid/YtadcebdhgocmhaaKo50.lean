/- Lemmas for the row. -/
import Derived.Test.YtadcebdhgocmhaaKo49
namespace Go.Proofs.Ytadcebdhgocmhaa
open Go.RowKit
set_option linter.unusedVariables false
def mkPrs (k : Nat) : List Pr → List Pr
  | [] => []
  | p :: r => ⟨markT k, mkGs (k + 1) p.body⟩ :: mkPrs (k + (1 + smarkss p.body)) r
theorem mkPrs_length (k : Nat) (l : List Pr) : (mkPrs k l).length = l.length := by
  induction l generalizing k with
  | nil => rfl
  | cons p r ih => rw [mkPrs, List.length_cons, List.length_cons, ih]
theorem mkPrs_get (k : Nat) (l : List Pr) {m : Nat} (h : m < l.length) : (mkPrs k l)[m]? = some ⟨markT (k + pmarks (l.take m)), mkGs (k + pmarks (l.take m) + 1) l[m].body⟩ := by
  induction l generalizing k m with
  | nil => simp at h
  | cons p r ih =>
    cases m with
    | zero => simp [mkPrs, pmarks]
    | succ m =>
      have h' : m < r.length := by simpa using h
      rw [mkPrs, List.getElem?_cons_succ, ih _ h', List.take_succ_cons, pmarks]
      simp [Nat.add_assoc]
def mkPg (k : Nat) (p : Pg) : Pg := ⟨marksS p.globals.length k, marksS p.locks.length (k + p.globals.length), mkPrs (k + p.globals.length + p.locks.length) p.procs⟩
set_option maxHeartbeats 800000 in
theorem laws_markStrRowH (ss : List ByteArray) (A : Option Addr) (c k : Nat) (w : World) (F : Nat → Prop) (row : StrRowO w F A ss) (hF : ∀ b, F b → b < w.heap.size) (hl : ss.length ≤ c) (hc : c ≤ maxLen) (h0 : 0 < k) (h1 : k + ss.length ≤ 100000000) :
    Calls Try.prog 55 #[.slice A ss.length c, .int .i64 (k : Int)] w fun e w' => e = .returned (.int .i64 ((k + ss.length : Nat) : Int)) ∧ StrRowO w' F A (marksS ss.length k) ∧ Keep (fun b => ¬ F b) w w' := by
  unfold maxLen at hc
  have RW := Lib.hid row
  have HF := Lib.hid hF
  clear row hF
  go_enter Try.func55, Try.ntmps55
  go_wp2_with fail
  go_loopw [1, 5] (fun n i wr => ∃ m : Nat, m ≤ ss.length ∧ i = .int .i64 m ∧ n = .int .i64 ((k + m : Nat) : Int) ∧ Hid (∃ l : List ByteArray, l.length = ss.length ∧ (∀ i, i < m → l[i]? = (marksS ss.length k)[i]?) ∧ StrRowO wr F A l ∧ Keep (fun b => ¬ F b) w wr)) (fun _ i _ => ss.length - (intOf i).toNat)
  case atStart => exact ⟨0, Nat.zero_le _, rfl, rfl, Lib.hid ⟨ss, rfl, fun i h => absurd h (by omega), RW.out, Keep.refl _ _⟩⟩
  case round =>
    obtain ⟨m, hm, rfl, rfl, HR⟩ := hrel
    obtain ⟨l, hll, hdone, hrow, hkeep⟩ := HR.out
    have HD := Lib.hid hdone
    clear hdone
    by_cases hlt : m < ss.length
    · obtain ⟨b, off, G, cells, rfl, hcl, hcell, hP, hFb, hpl, hGF, hback⟩ := RowOf.focus (P := StrP) StrP.keepP hrow (i := m) (by omega)
      have d0 : wr.cell? ⟨b, off + m, none⟩ = some (.string (l[m]'(by omega))) := by
        have := hcell 0 (.string (l[m]'(by omega))) (by rw [hP.1]; rfl)
        simpa using this
      have hlb := cell_lt d0
      have HB := Lib.hid hback
      have HPL := Lib.hid hpl
      have HFB := Lib.hid hFb
      have KP := Lib.hid hkeep
      have HL := Lib.hid hll
      have h0m : (0 : Int) ≤ (m : Int) := by omega
      have EC : Hid ((k : Int) + (m : Int) = ((k + m : Nat) : Int)) := Lib.hid (by omega)
      clear hrow hkeep hcl hP hGF hback hpl hFb hcell HR
      go_wp2_with fail
      rw [EC.out]
      refine (laws_markText (k + m) _ (by omega) (by omega)).mono ?_
      rintro e w1 ⟨rfl, b1⟩
      have P1 := Lib.hid (plain_below HPL.out b1)
      have e0 := cell_keep b1 d0
      have f0 := plain_free P1.out (off + m)
      have E0 := Lib.hid e0
      have c1 : Hid (∀ o, w1.cell? ⟨b, o, none⟩ = wr.cell? ⟨b, o, none⟩) := Lib.hid fun o => b1.cell (p := ⟨b, o, none⟩) hlb
      have hz1 := b1.size
      have RN : Hid (∃ l : List ByteArray, l.length = ss.length ∧ (∀ i, i < m + 1 → l[i]? = (marksS ss.length k)[i]?) ∧ StrRowO (w1.setCell ⟨b, off + m, none⟩ (.string (markT (k + m)))) F (some ⟨b, off, none⟩) l ∧ Keep (fun b => ¬ F b) w (w1.setCell ⟨b, off + m, none⟩ (.string (markT (k + m))))) := by
        refine Lib.hid ⟨l.set m (markT (k + m)), by rw [List.length_set]; exact HL.out, fun i hi => ?_, HB.out _ [.string (markT (k + m))] _ rfl (plain_set P1.out b (off + m) _) (fun r u hu => ?_) (fun o ho => ?_) (fun y hy hne _ => ?_) ⟨rfl, markT_le (by omega)⟩, ?_⟩
        · by_cases him : i = m
          · subst him
            rw [List.getElem?_set_self (by have := HL.out; omega), marksS_get _ _ _ hlt]
          · rw [List.getElem?_set_ne (by omega)]; exact HD.out i (by omega)
        · match r, hu with
          | 0, hu => injection hu with hu; subst hu; simpa using World.cell?_setCell_same w1 ⟨b, off + m, none⟩ _ E0.out
          | r + 1, hu => simp at hu
        · rw [World.cell?_setCell_other _ _ _ _ (fun e => by injection e with _ e; omega), c1.out]
        · rw [Below.heap_setCell _ _ _ _ hne]
          exact b1.block y (Nat.lt_of_lt_of_le (HF.out y hy) KP.out.size)
        · exact (KP.out.trans (Keep.of_below (S := fun y => ¬ F y) b1) (fun _ _ h => h)).setCell (p := ⟨b, off + m, none⟩) (fun h => h HFB.out) _
      clear b1
      go_wp2_with fail
      go_roundw
      case rel => exact ⟨m + 1, by omega, by go_num, by go_num, RN⟩
      case measure => simp [intOf]; omega
    · have HK := Lib.hid hkeep
      have HE : Hid (StrRowO wr F A (marksS ss.length k)) := Lib.hid (by
        have e : l = marksS ss.length k := List.ext_getElem? fun i => by
          by_cases hi : i < m
          · exact HD.out i hi
          · rw [List.getElem?_eq_none (by omega), List.getElem?_eq_none (by rw [marksS_length]; omega)]
        rw [← e]; exact hrow)
      clear hrow hkeep HR
      go_wp2_with fail
      go_ret
      exact ⟨ret_int (by omega), HE.out, HK.out⟩
set_option maxHeartbeats 1600000 in
theorem laws_markProcSH (l : List Pr) (A : Option Addr) (c k : Nat) (w : World) (F : Nat → Prop) (row : PrRowO w F A l) (hF : ∀ b, F b → b < w.heap.size) (hl : l.length ≤ c) (hc : c ≤ maxLen) (h0 : 0 < k) (h1 : k + pmarks l ≤ 100000000) :
    Calls Try.prog 56 #[.slice A l.length c, .int .i64 (k : Int)] w fun e w' => e = .returned (.int .i64 ((k + pmarks l : Nat) : Int)) ∧ PrRowO w' F A (mkPrs k l) ∧ Keep (fun b => ¬ F b) w w' := by
  unfold maxLen at hc
  have RW := Lib.hid row
  have HF := Lib.hid hF
  clear row hF
  go_enter Try.func56, Try.ntmps56
  go_wp2_with fail
  go_loopw [1, 5] (fun n i wr => ∃ m : Nat, m ≤ l.length ∧ i = .int .i64 m ∧ n = .int .i64 ((k + pmarks (l.take m) : Nat) : Int) ∧ Hid (∃ l' : List Pr, l'.length = l.length ∧ (∀ i, i < m → l'[i]? = (mkPrs k l)[i]?) ∧ (∀ i, m ≤ i → l'[i]? = l[i]?) ∧ PrRowO wr F A l' ∧ Keep (fun b => ¬ F b) w wr)) (fun _ i _ => l.length - (intOf i).toNat)
  case atStart => exact ⟨0, Nat.zero_le _, rfl, by simp [pmarks], Lib.hid ⟨l, rfl, fun i h => absurd h (by omega), fun _ _ => rfl, RW.out, Keep.refl _ _⟩⟩
  case round =>
    obtain ⟨m, hm, rfl, rfl, HR⟩ := hrel
    obtain ⟨l', hll, hdone, hsame, hrow, hkeep⟩ := HR.out
    have HD := Lib.hid hdone
    clear hdone
    by_cases hlt : m < l.length
    · have hlt' : m < l'.length := by omega
      have hel : l'[m] = l[m] := by
        have := hsame m (Nat.le_refl _)
        rw [List.getElem?_eq_getElem hlt', List.getElem?_eq_getElem hlt] at this
        injection this
      obtain ⟨b, off, G, cells, rfl, hcl, hcell, ⟨x, rfl, hnm, hxm, _, hbc, hcm, hbody⟩, hFb, hpl, hGF, hback⟩ := RowOf.focus (P := PrP) PrP.keepP hrow hlt'
      rw [hel] at hnm hxm hbc hbody
      have d0 := hcell 0 _ rfl
      have d1 := hcell 1 _ rfl
      simp only [Nat.add_zero] at d0
      rw [hxm] at d1
      have hlb := cell_lt d0
      have HB := Lib.hid hback
      have HPL := Lib.hid hpl
      have HFB := Lib.hid hFb
      have HGF := Lib.hid hGF
      have KP := Lib.hid hkeep
      have HL := Lib.hid hll
      have HS := Lib.hid hsame
      have BODY := Lib.hid hbody
      have hpt := pmarks_take l m hlt
      have MG := Lib.hid (mkPrs_get k l hlt)
      have hpl2 := pmarks_take_le l (m + 1)
      have HN : Hid (pmarks (l.take (m + 1)) = pmarks (l.take m) + (1 + smarkss l[m].body)) := Lib.hid hpt
      have h0m : (0 : Int) ≤ (m : Int) := by omega
      have hbd : k + pmarks (l.take m) + 1 + smarkss l[m].body ≤ 100000000 := by omega
      generalize hKK : k + pmarks (l.take m) = K at *
      have HK := Lib.hid hKK
      have hK0 : 0 < K := by omega
      clear hKK hrow hkeep hcl hGF hback hpl hFb hcell HR hsame hnm hxm hbody hpt hpl2 hel
      go_wp2_with fail
      refine (laws_markText K _ (by omega) (by omega)).mono ?_
      rintro e w1 ⟨rfl, b1⟩
      have P1 := Lib.hid (plain_below HPL.out b1)
      have e0 := cell_keep b1 d0
      have e1 := cell_keep b1 d1
      have f0 := plain_free P1.out (off + m * 2)
      have E0 := Lib.hid e0
      have E1 := Lib.hid e1
      have c1 : Hid (∀ o, w1.cell? ⟨b, o, none⟩ = wr.cell? ⟨b, o, none⟩) := Lib.hid fun o => b1.cell (p := ⟨b, o, none⟩) hlb
      have B1 := Lib.hid b1
      have hz1 := b1.size
      clear b1 d0 d1
      go_wp2_with fail
      generalize hW2 : w1.setCell ⟨b, off + m * 2, none⟩ (.string (markT K)) = W2 at *
      have HW2 := Lib.hid hW2
      have hz2 : W2.heap.size = w1.heap.size := by rw [← hW2]; simp
      clear hW2
      have keep2 : Hid (∀ y, G y → W2.heap[y]? = wr.heap[y]?) := Lib.hid fun y hy => by
        rw [← HW2.out, Below.heap_setCell _ _ _ _ (HGF.out y hy).2]
        exact B1.out.block y (Nat.lt_of_lt_of_le (HF.out y (HGF.out y hy).1) KP.out.size)
      have hszG : Hid (∀ y, G y → y < W2.heap.size) := Lib.hid fun y hy => by
        have := HF.out y (HGF.out y hy).1
        have := KP.out.size; omega
      have R2 := Lib.hid (BODY.out.keep keep2.out)
      have g1 : W2.cell? ⟨b, off + m * 2 + 1, none⟩ = some (.slice x.A l[m].body.length x.c) := by rw [← HW2.out, World.cell?_setCell_other _ _ _ _ (by simp)]; exact E1.out
      have G1 := Lib.hid g1
      clear e0 e1 f0
      first | done | skip
      refine (laws_markStmtS l[m].body (K + 1) x.A x.c W2 G R2.out hszG.out hbc hcm (by omega) (by omega)).mono ?_
      rintro e w3 ⟨rfl, r3, k3⟩
      have hlb2 : b < W2.heap.size := by omega
      have nGb : ¬ G b := fun h => (HGF.out b h).2 rfl
      have c3 : Hid (∀ o, w3.cell? ⟨b, o, none⟩ = W2.cell? ⟨b, o, none⟩) := Lib.hid fun o => k3.cell (p := ⟨b, o, none⟩) hlb2 nGb
      have RN : Hid (∃ l' : List Pr, l'.length = l.length ∧ (∀ i, i < m + 1 → l'[i]? = (mkPrs k l)[i]?) ∧ (∀ i, m + 1 ≤ i → l'[i]? = l[i]?) ∧ PrRowO w3 F (some ⟨b, off, none⟩) l' ∧ Keep (fun b => ¬ F b) w w3) := by
        refine Lib.hid ⟨l'.set m ⟨markT K, mkGs (K + 1) l[m].body⟩, by rw [List.length_set]; exact HL.out, fun i hi => ?_, fun i hi => ?_, HB.out _ (V2.cells ⟨markT K, x.A, l[m].body.length, x.c⟩) _ rfl ?_ (fun r u hu => ?_) (fun o ho => ?_) (fun y hy hne hG => ?_) ?_, ?_⟩
        · by_cases him : i = m
          · subst him
            rw [List.getElem?_set_self (by have := HL.out; omega), MG.out]
          · rw [List.getElem?_set_ne (by omega)]; exact HD.out i (by omega)
        · rw [List.getElem?_set_ne (by omega)]; exact HS.out i (by omega)
        · obtain ⟨cur, e, hb⟩ := plain_set P1.out b (off + m * 2) (.string (markT K))
          rw [HW2.out] at hb
          exact ⟨cur, e, (k3.block b hlb2 nGb).trans hb⟩
        · rw [c3.out]
          match r, hu with
          | 0, hu => injection hu with hu; subst hu; rw [← HW2.out]; simpa using World.cell?_setCell_same w1 ⟨b, off + m * 2, none⟩ _ E0.out
          | 1, hu => injection hu with hu; subst hu; exact G1.out
          | r + 2, hu => simp [V2.cells] at hu
        · rw [c3.out, ← HW2.out, World.cell?_setCell_other _ _ _ _ (fun e => by injection e with _ e; omega), c1.out]
        · have hyl := Nat.lt_of_lt_of_le (HF.out y hy) KP.out.size
          rw [k3.block y (by omega) hG, ← HW2.out, Below.heap_setCell _ _ _ _ hne]
          exact B1.out.block y hyl
        · exact ⟨_, rfl, rfl, by simp [mkGs_length], markT_le (by omega), by rw [mkGs_length]; exact hbc, hcm, r3⟩
        · have q1 := (KP.out.trans (Keep.of_below (S := fun y => ¬ F y) B1.out) (fun _ _ h => h)).setCell (p := ⟨b, off + m * 2, none⟩) (fun h => h HFB.out) (.string (markT K))
          rw [HW2.out] at q1
          exact q1.trans k3 (fun y _ h hg => h (HGF.out y hg).1)
      clear r3 k3 g1
      go_wp2_with fail
      go_roundw
      case rel => exact ⟨m + 1, by omega, by go_num, by rw [HN.out]; exact congrArg (Value.int .i64) (by have := HK.out; omega), RN⟩
      case measure => simp [intOf]; omega
    · have HK := Lib.hid hkeep
      have HE : Hid (PrRowO wr F A (mkPrs k l)) := Lib.hid (by
        have e : l' = mkPrs k l := List.ext_getElem? fun i => by
          by_cases hi : i < m
          · exact HD.out i hi
          · rw [List.getElem?_eq_none (by omega), List.getElem?_eq_none (by rw [mkPrs_length]; omega)]
        rw [← e]; exact hrow)
      clear hrow hkeep HR hsame
      go_wp2_with fail
      go_ret
      exact ⟨ret_int (by rw [List.take_of_length_le (by omega)]), HE.out, HK.out⟩
set_option maxHeartbeats 800000 in
theorem laws_markProgH (p : Pg) (x : V3) (k : Nat) (w : World) (F : Nat → Prop) (hp : PgO w F x p) (hF : ∀ b, F b → b < w.heap.size) (h0 : 0 < k) (h1 : k + markZ p ≤ 100000000) :
    Calls Try.prog 21 #[x.val p, .int .i64 (k : Int)] w fun e w' => e = .returned (.int .i64 ((k + markZ p : Nat) : Int)) ∧ PgO w' F x (mkPg k p) ∧ Keep (fun b => ¬ F b) w w' := by
  obtain ⟨G, L, P, s1, s2, s3, d1, d2, d3, a1, a2, a3, b1, b2, b3, c1, c2, c3⟩ := hp
  obtain ⟨gA, gc, lA, lc, pA, pc⟩ := x
  simp only at a1 a2 a3 b1 b2 b3 c1 c2 c3
  unfold V3.val
  simp only
  have HF := Lib.hid hF
  have S1 := Lib.hid s1
  have S2 := Lib.hid s2
  have S3 := Lib.hid s3
  have D1 := Lib.hid d1
  have D2 := Lib.hid d2
  have D3 := Lib.hid d3
  have RG := Lib.hid a3
  have RL := Lib.hid b3
  have RP := Lib.hid c3
  have hz : p.globals.length + p.locks.length + pmarks p.procs = markZ p := rfl
  have HZ := Lib.hid hz
  have hb : k + (p.globals.length + p.locks.length + pmarks p.procs) ≤ 100000000 := h1
  clear hF s1 s2 s3 d1 d2 d3 a3 b3 c3 hz h1
  go_enter Try.func21, Try.ntmps21
  go_wp2_with fail
  have B0 : Hid (Below w.heap.size w (w.alloc (.cells #[.slice gA p.globals.length gc, .slice lA p.locks.length lc, .slice pA p.procs.length pc] 27))) := Lib.hid (by repeat' first|exact .refl _ _|exact Nat.le_refl _|refine .alloc ?_ ?_ _|refine .setCell ?_ ?_ _|refine .drew ?_|refine below_drewN ?_ _|assumption|(simp;done)|(simp;omega))
  refine (laws_markStrRowH p.globals gA gc k _ G (RG.out.keep fun b hb => B0.out.block b (HF.out b (S1.out b hb))) (fun b hb => by have := HF.out b (S1.out b hb); simp; omega) a1 a2 h0 (by omega)).mono ?_
  rintro e w1 ⟨rfl, m1, k1⟩
  have M1 := Lib.hid m1
  clear m1
  have K1 := Lib.hid k1
  have nb : ∀ y, F y → y ≠ w.heap.size := fun y hy e => by have := HF.out y hy; omega
  have NB := Lib.hid nb
  have BX1 : Hid (BoxB w1 w.heap.size [.slice gA p.globals.length gc, .slice lA p.locks.length lc, .slice pA p.procs.length pc]) := Lib.hid (BoxB.keepS (BoxB.lit rfl) k1 (fun h => NB.out _ (S1.out _ h) rfl))
  have p1 := BX1.out 1 _ rfl
  have hz1 : w.heap.size < w1.heap.size := by have := k1.size; simp at this; omega
  have RL1 := Lib.hid (RL.out.keep (w' := w1) fun b hb => (k1.block b (by have := HF.out b (S2.out b hb); simp; omega) (fun h => D1.out b h hb)).trans (B0.out.block b (HF.out b (S2.out b hb))))
  have RP1 := Lib.hid (RP.out.keep (w' := w1) fun b hb => (k1.block b (by have := HF.out b (S3.out b hb); simp; omega) (fun h => D2.out b h hb)).trans (B0.out.block b (HF.out b (S3.out b hb))))
  clear k1 nb
  go_wp2_with fail
  refine (laws_markStrRowH p.locks lA lc (k + p.globals.length) _ L RL1.out (fun b hb => by have := HF.out b (S2.out b hb); omega) b1 b2 (by omega) (by omega)).mono ?_
  rintro e w2 ⟨rfl, m2, k2⟩
  have M2 := Lib.hid m2
  clear m2
  have K2 := Lib.hid k2
  have BX2 := Lib.hid (BX1.out.keepS k2 (fun h => NB.out _ (S2.out _ h) rfl))
  have p2 := BX2.out 2 _ rfl
  have hz2 : w.heap.size < w2.heap.size := by have := k2.size; omega
  have RP2 := Lib.hid (RP1.out.keep (w' := w2) fun b hb => k2.block b (by have := HF.out b (S3.out b hb); omega) (fun h => D3.out b h hb))
  clear k2 p1
  go_wp2_with fail
  refine (laws_markProcSH p.procs pA pc (k + p.globals.length + p.locks.length) _ P RP2.out (fun b hb => by have := HF.out b (S3.out b hb); omega) c1 c2 (by omega) (by omega)).mono ?_
  rintro e w3 ⟨rfl, m3, k3⟩
  have M3 := Lib.hid m3
  clear m3
  have KN : Hid (Keep (fun b => ¬ F b) w w3) := Lib.hid ((((Keep.of_below (S := fun b => ¬ F b) B0.out).trans K1.out (fun y _ h hg => h (S1.out y hg))).trans K2.out (fun y _ h hg => h (S2.out y hg))).trans k3 (fun y _ h hg => h (S3.out y hg)))
  have MG1 : Hid (StrRowO w3 G gA (marksS p.globals.length k)) := Lib.hid (M1.out.keep fun b hb => by
    have h1 := HF.out b (S1.out b hb)
    have h2 := K1.out.size
    have h3 := K2.out.size
    simp only [World.size_alloc] at h2
    exact (k3.block b (by omega) (fun h => D2.out b hb h)).trans (K2.out.block b (by omega) (fun h => D1.out b hb h)))
  have ML1 : Hid (StrRowO w3 L lA (marksS p.locks.length (k + p.globals.length))) := Lib.hid (M2.out.keep fun b hb => by
    have h1 := HF.out b (S2.out b hb)
    have h2 := K1.out.size
    have h3 := K2.out.size
    simp only [World.size_alloc] at h2
    exact k3.block b (by omega) (fun h => D3.out b hb h))
  have PG : Hid (PgO w3 F ⟨gA, gc, lA, lc, pA, pc⟩ (mkPg k p)) := Lib.hid ⟨G, L, P, S1.out, S2.out, S3.out, D1.out, D2.out, D3.out, by rw [mkPg, marksS_length]; exact a1, a2, MG1.out, by rw [mkPg, marksS_length]; exact b1, b2, ML1.out, by rw [mkPg, mkPrs_length]; exact c1, c2, M3.out⟩
  clear k3 p2
  go_wp2_with fail
  go_ret
  exact ⟨ret_int (by rw [← HZ.out]; omega), PG.out, KN.out⟩
end Go.Proofs.Ytadcebdhgocmhaa
