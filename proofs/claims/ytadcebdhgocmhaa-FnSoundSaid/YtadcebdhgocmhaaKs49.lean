/- Several texts in one: Uses. -/
import Derived.Test.YtadcebdhgocmhaaKs42
import Derived.Test.YtadcebdhgocmhaaKs48
namespace Go.Proofs.Ytadcebdhgocmhaa
open Go.RowKit
set_option linter.unusedVariables false


def useB (k : Int) : Bool := (k == 1) || (k == 6) || (k == 7)
def putU (k : Int) (out : List ByteArray) (s : ByteArray) : List ByteArray := if useB k = true then out ++ [s] else out
def onceU (k : Int) (acc : List ByteArray) (s : ByteArray) : List ByteArray := if useB k = true then addOnceP acc s else acc
theorem putU_yes {k : Int} (h : useB k = true) (out : List ByteArray) (s : ByteArray) : putU k out s = out ++ [s] := by simp [putU, h]
theorem putU_no {k : Int} (h : useB k = false) (out : List ByteArray) (s : ByteArray) : putU k out s = out := by simp [putU, h]
theorem onceU_yes {k : Int} (h : useB k = true) (acc : List ByteArray) (s : ByteArray) : onceU k acc s = addOnceP acc s := by simp [onceU, h]
theorem onceU_no {k : Int} (h : useB k = false) (acc : List ByteArray) (s : ByteArray) : onceU k acc s = acc := by simp [onceU, h]
theorem putU_len (k : Int) (out : List ByteArray) (s : ByteArray) : (putU k out s).length ≤ out.length + 1 := by unfold putU; split <;> simp
theorem onceU_len (k : Int) (acc : List ByteArray) (s : ByteArray) : (onceU k acc s).length ≤ acc.length + 1 := by
  unfold onceU
  split
  · exact addOnce_len acc s
  · omega
mutual
def usesG (out : List ByteArray) : St → List ByteArray
  | .mk k s t b e => usesGs (usesGs (putU k out s ++ readsR t) b) e
def usesGs (out : List ByteArray) : List St → List ByteArray
  | [] => out
  | g :: r => usesGs (usesG out g) r
end
mutual
def usedG (acc : List ByteArray) : St → List ByteArray
  | .mk k s t b e => usedGs (usedGs (readsT (onceU k acc s) t) b) e
def usedGs (acc : List ByteArray) : List St → List ByteArray
  | [] => acc
  | g :: r => usedGs (usedG acc g) r
end
theorem usesG_mk (out : List ByteArray) (k : Int) (s : ByteArray) (t : Tm) (b e : List St) : usesG out (.mk k s t b e) = usesGs (usesGs (putU k out s ++ readsR t) b) e := by rw [usesG]
theorem usedG_mk (acc : List ByteArray) (k : Int) (s : ByteArray) (t : Tm) (b e : List St) : usedG acc (.mk k s t b e) = usedGs (usedGs (readsT (onceU k acc s) t) b) e := by rw [usedG]
theorem usesGs_append (out : List ByteArray) (l r : List St) : usesGs out (l ++ r) = usesGs (usesGs out l) r := by
  induction l generalizing out with
  | nil => simp [usesGs]
  | cons t l ih => rw [List.cons_append, usesGs, usesGs, ih]
theorem usesGs_take (out : List ByteArray) (l : List St) (j : Nat) (h : j < l.length) : usesGs out (l.take (j + 1)) = usesG (usesGs out (l.take j)) l[j] := by
  have e : l.take (j + 1) = l.take j ++ [l[j]] := List.take_succ_eq_append_getElem h
  rw [e, usesGs_append]; simp [usesGs]
mutual
theorem usesG_len (out : List ByteArray) : (g : St) → (usesG out g).length ≤ out.length + 2 * (1 + totG g)
  | .mk k s t b e => by
    rw [usesG_mk, totG]
    have h1 := putU_len k out s
    have h3 := readsR_len t
    have h4 := nodes_tot t
    have h2 : (putU k out s ++ readsR t).length = (putU k out s).length + (readsR t).length := List.length_append
    have h5 := usesGs_len (putU k out s ++ readsR t) b
    have h6 := usesGs_len (usesGs (putU k out s ++ readsR t) b) e
    omega
theorem usesGs_len (out : List ByteArray) : (l : List St) → (usesGs out l).length ≤ out.length + 2 * totGs l
  | [] => by rw [usesGs, totGs]; omega
  | g :: r => by
    rw [usesGs, totGs]
    have h1 := usesG_len out g
    have h2 := usesGs_len (usesG out g) r
    omega
end
theorem has_append (a b : List ByteArray) (x : ByteArray) : hasS (a ++ b) x = (hasS a x || hasS b x) := by unfold hasS; rw [List.any_append]
theorem has_one (s x : ByteArray) : hasS [s] x = decide (s = x) := by simp [hasS]
theorem has_once (acc : List ByteArray) (s x : ByteArray) : hasS (addOnceP acc s) x = (hasS acc x || decide (s = x)) := by
  cases h : hasS acc s with
  | true =>
    rw [addOnce_yes h]
    by_cases e : s = x
    · subst e; rw [h]; simp
    · rw [decide_no e, Bool.or_false]
  | false => rw [addOnce_no h, has_append, has_one]
mutual
theorem has_readsT (acc : List ByteArray) (x : ByteArray) : (t : Tm) → hasS (readsT acc t) x = (hasS acc x || hasS (readsT [] t) x)
  | .mk k n s kids => by
    by_cases h : k = 2
    · subst h
      rw [readsT_var, readsT_var, has_once, has_once]
      have : hasS [] x = false := rfl
      rw [this, Bool.false_or]
    · rw [readsT_other _ h, readsT_other _ h, has_readsTs acc x kids]
theorem has_readsTs (acc : List ByteArray) (x : ByteArray) : (l : List Tm) → hasS (readsTs acc l) x = (hasS acc x || hasS (readsTs [] l) x)
  | [] => by simp [readsTs, hasS]
  | t :: r => by
    rw [readsTs, readsTs, has_readsTs (readsT acc t) x r, has_readsTs (readsT [] t) x r, has_readsT acc x t, Bool.or_assoc]
end
def GdT : St → Prop
  | .mk _ _ t _ _ => okT 6 t = true ∨ t = zeroTm
theorem GdT.reads {k : Int} {s : ByteArray} {t : Tm} {b e : List St} (h : GdT (.mk k s t b e)) : readsR t = readsT [] t := by
  have h : okT 6 t = true ∨ t = zeroTm := h
  rcases h with h | rfl
  · exact readsR_yes h
  · rw [readsR_zero]
    unfold zeroTm
    rw [readsT_other _ (by decide)]; simp [readsTs]
theorem GdT.nodes {k : Int} {s : ByteArray} {t : Tm} {b e : List St} (h : GdT (.mk k s t b e)) : nodes t ≤ 127 := by
  have h : okT 6 t = true ∨ t = zeroTm := h
  rcases h with h | rfl
  · have := nodes_ok 6 t h; omega
  · simp [zeroTm, Go.Proofs.Ytadcebdhgocmhaa.nodes, nodess]
theorem has_uses (l : List St) : ∀ (out acc : List ByteArray), deepGs GdT l → (∀ x, hasS out x = hasS acc x) → ∀ x, hasS (usesGs out l) x = hasS (usedGs acc l) x := by
  induction hN : snodess l using Nat.strongRecOn generalizing l with
  | ind N ih =>
    intro out acc hg h x
    cases l with
    | nil => rw [usesGs, usedGs]; exact h x
    | cons g r =>
      obtain ⟨k, s, t, b, e⟩ := g
      rw [deepGs, deepG] at hg
      rw [snodess, snodes] at hN
      rw [usesGs, usedGs, usesG_mk, usedG_mk]
      refine ih _ (by omega) r rfl _ _ hg.2 (ih _ (by omega) e rfl _ _ hg.1.2.2 (ih _ (by omega) b rfl _ _ hg.1.2.1 fun y => ?_)) x
      rw [has_append, has_readsT, hg.1.1.reads]
      congr 1
      unfold putU onceU
      split
      · rw [has_append, has_once, has_one, h y]
      · exact h y
theorem shape_good {k : Int} {s : ByteArray} {t : Tm} {b e : List St} (h : shapeG (.mk k s t b e) = true) : okT 6 t = true ∨ t = zeroTm := by
  by_cases h1 : k = 1
  · simp only [shapeG, shapeB] at h; rw [if_pos h1] at h; simp only [Bool.and_eq_true] at h; exact .inl h.1.1.2
  by_cases h2 : k = 2
  · simp only [shapeG, shapeB] at h; rw [if_neg h1, if_pos h2] at h; simp only [Bool.and_eq_true] at h; exact .inl h.2
  by_cases h3 : k = 3
  · simp only [shapeG, shapeB] at h; rw [if_neg h1, if_neg h2, if_pos h3] at h; simp only [Bool.and_eq_true] at h; exact .inl h.1.2
  exact .inr (shape_zero h h1 h2 h3)
theorem good_right (l : List St) : ∀ deep, rightGs deep l = true → deepGs GdT l := by
  induction hN : snodess l using Nat.strongRecOn generalizing l with
  | ind N ih =>
    intro deep h
    refine deepGs_of fun g hg => ?_
    have hr := rightGs_mem h hg
    have hlt := snodess_le hg
    obtain ⟨k, s, t, b, e⟩ := g
    rw [snodes] at hlt
    cases hs : shapeG (.mk k s t b e) with
    | false => rw [rightG_shape hs] at hr; cases hr
    | true =>
      rw [deepG]
      refine ⟨shape_good hs, ?_⟩
      cases hm : manyB k with
      | false =>
        have h1 := plain_one hs hm
        rw [snodes] at h1
        rw [snodess_nil (l := b) (by omega), snodess_nil (l := e) (by omega)]
        exact ⟨by rw [deepGs]; trivial, by rw [deepGs]; trivial⟩
      | true =>
        rw [rightG_many hs hm, Bool.and_eq_true, Bool.and_eq_true] at hr
        exact ⟨ih _ (by omega) b rfl _ hr.1.2, ih _ (by omega) e rfl _ hr.2⟩
theorem okPr_good {p : Pg} (h : okPg p = true) {k : Nat} (hk : k < p.procs.length) : deepGs GdT p.procs[k].body := by
  have := List.all_eq_true.1 (okPg_procs h).2 _ (List.getElem_mem hk)
  unfold okPr at this
  rw [Bool.and_eq_true] at this
  exact good_right _ _ (fit_inv this.2).1
abbrev UsC (l : List St) : Prop := ∀ (A : Option Addr) (c : Nat) (w0 w : World) (v : Value) (out : List ByteArray), StRow AnyB w0 A l → OwnStrs w0 w v out → l.length ≤ c → c ≤ maxLen → out.length + 2 * totGs l ≤ 10000000 → totGs l ≤ 1048577 →
  Calls Try.prog 41 #[.slice A l.length c, v] w fun e w' => ∃ v', e = .returned v' ∧ OwnStrs w0 w' v' (usesGs out l) ∧ KeepT 9 w w'
theorem use_cases (k : Int) : k = 1 ∨ k = 6 ∨ k = 7 ∨ ((k == 1) = false ∧ (k == 6) = false ∧ (k == 7) = false) := by
  simp only [beq_eq_false_iff_ne]; omega
theorem use_none {k : Int} (h1 : (k == 1) = false) (h2 : (k == 6) = false) (h3 : (k == 7) = false) : useB k = false := by simp [useB, h1, h2, h3]
set_option maxHeartbeats 6400000 in
set_option maxRecDepth 100000 in
theorem spec_l07Uses_at (l : List St) (ih : ∀ g ∈ l, ∀ t k s body els, g = .mk k s t body els → UsC body ∧ UsC els) : UsC l := by
  intro A c w0 w v out row own hl hc hbd htot
  unfold maxLen at hc
  have IH := Lib.hid ih
  have RW := Lib.hid row
  have OW := Lib.hid own
  obtain ⟨A0, c0, rfl, hl0⟩ := own.slice
  clear ih row own
  go_enter Try.func41, Try.ntmps41
  go_wp2_with fail
  go_loopw [1, 5] (fun lv i wr => ∃ j : Nat, j ≤ l.length ∧ i = .int .i64 j ∧ ∃ A' c', lv = .slice A' (usesGs out (l.take j)).length c' ∧ Hid (OwnStrs w0 wr (.slice A' (usesGs out (l.take j)).length c') (usesGs out (l.take j)) ∧ KeepT 9 w wr)) (fun _ i _ => l.length - (intOf i).toNat)
  case atStart => exact ⟨0, Nat.zero_le _, rfl, A0, c0, rfl, Lib.hid ⟨OW.out, KeepT.refl' _ _⟩⟩
  case round =>
    obtain ⟨j, hj, rfl, A', c', rfl, HO⟩ := hrel
    rename World => wq
    by_cases hlt : j < l.length
    case neg =>
      go_wp2_with fail
      go_ret
      have := HO.out
      rw [List.take_of_length_le (by omega)] at this ⊢
      exact ⟨_, rfl, this.1, this.2⟩
    obtain ⟨b, off, x, rfl, _, ⟨d0, d1, d2, d3, d4, d5, d6, d7⟩, hg⟩ := rd_stmt RW.out hlt
    replace d0 := cell_keep HO.out.1.2 d0
    replace d1 := cell_keep HO.out.1.2 d1
    replace d2 := cell_keep HO.out.1.2 d2
    replace d3 := cell_keep HO.out.1.2 d3
    replace d4 := cell_keep HO.out.1.2 d4
    replace d5 := cell_keep HO.out.1.2 d5
    replace d6 := cell_keep HO.out.1.2 d6
    replace d7 := cell_keep HO.out.1.2 d7
    obtain ⟨t, body, els, heq, _, _, ht, hb1, hb2, hb3, rb, he1, he2, he3, re⟩ := hg.inv
    have VB := Lib.hid (IH.out l[j] (List.getElem_mem hlt) t _ _ body els heq).1
    have VE := Lib.hid (IH.out l[j] (List.getElem_mem hlt) t _ _ body els heq).2
    have hsp := totGs_split l j hlt
    have htg : totG l[j] = x.s.size + totT t + totGs body + totGs els := by rw [heq, totG]
    have hnl := usesGs_len out (l.take j)
    have HN := Lib.hid (usesGs_take out l j hlt)
    rw [heq, usesG_mk] at HN
    have RB := Lib.hid rb
    have RE := Lib.hid re
    have TT := Lib.hid ht
    have hrl := readsR_len t
    have hnt := nodes_tot t
    obtain ⟨xk, xs, tk, tn, ts, tA, tm, tc, bA, bm, bc, eA, em, ec⟩ := x
    simp only [V8.term] at hb1 he1 hb2 hb3 he2 he3 d0 d1 d2 d3 d4 d5 d6 d7 RB RE HN htg TT
    subst hb1 he1
    have h0k : (0 : Int) ≤ (j : Int) := by omega
    have hlb := cell_lt d0
    clear heq hg rb re ht
    generalize hacc : usesGs out (l.take j) = aj at *
    clear hacc
    have BX : Hid (BoxB (wq.alloc (.cells #[.int .i64 xk, .string xs, .int .i64 tk, .int .i64 tn, .string ts, .slice tA tm tc, .slice bA body.length bc, .slice eA els.length ec] 36)) wq.heap.size [.int .i64 xk, .string xs, .int .i64 tk, .int .i64 tn, .string ts, .slice tA tm tc, .slice bA body.length bc, .slice eA els.length ec]) := Lib.hid (BoxB.lit rfl)
    have SB : Hid (Sane 9 (wq.alloc (.cells #[.int .i64 xk, .string xs, .int .i64 tk, .int .i64 tn, .string ts, .slice tA tm tc, .slice bA body.length bc, .slice eA els.length ec] 36)) wq.heap.size) := Lib.hid (sane_new (by decide))
    have OB : Hid (OwnStrs w0 (wq.alloc (.cells #[.int .i64 xk, .string xs, .int .i64 tk, .int .i64 tn, .string ts, .slice tA tm tc, .slice bA body.length bc, .slice eA els.length ec] 36)) (.slice A' aj.length c') aj) := Lib.hid (HO.out.1.alloc _)
    have KB : Hid (KeepT 9 w (wq.alloc (.cells #[.int .i64 xk, .string xs, .int .i64 tk, .int .i64 tn, .string ts, .slice tA tm tc, .slice bA body.length bc, .slice eA els.length ec] 36))) := Lib.hid (HO.out.2.trans' (KeepT.of_below' (Below.alloc (Below.refl _ _) (Nat.le_refl _) _)))
    clear HO
    rcases use_cases xk with rfl | rfl | rfl | ⟨e1, e6, e7⟩
    · skip
      have HU : Hid (putU 1 aj xs = aj ++ [xs]) := Lib.hid (putU_yes (by decide) _ _)
      go_wp2_with (at_builtin; refine wpList_appG_new (wq.heap.size + 1) (by simp) rfl _ _ _ rfl strT OB.out _ 1 rfl rfl rfl (by simp [Value.oneCell']) (by simp only [maxLen]; omega) (by omega) ?_; intro v1 w1 own1 gr1; have O1 : Hid (OwnStrs w0 w1 v1 (putU 1 aj xs)) := Lib.hid (by rw [HU.out]; unfold OwnStrs; rw [List.length_append, ← map_snoc]; exact own1); have KT1 := gr1.keepT OB.out; have K1 := Lib.hid (KB.out.trans' KT1); have B1 := Lib.hid (BX.out.keepS KT1 SB.out); have hz1 : wq.heap.size < w1.heap.size := (by have := KT1.size; simp at this; omega); have S1 := Lib.hid (sane_keep SB.out (by simp) KT1); obtain ⟨A1, c1, rfl, _⟩ := O1.out.slice; have q2 := B1.out 2 _ rfl; have q3 := B1.out 3 _ rfl; have q4 := B1.out 4 _ rfl; have q5 := B1.out 5 _ rfl; clear own1 gr1 KT1 OB KB BX SB)
      have hpl := putU_len 1 aj xs
      refine (spec_ReadsOf t tk tn ts tA tm tc _ (TT.out.belowA O1.out.2) (by omega)).mono ?_
      rintro e w2 ⟨vr, rfl, ownr⟩
      have hr2 := ownr.2
      have RR := Lib.hid ownr
      have O2 := Lib.hid (O1.out.below hr2)
      have K2 := Lib.hid (K1.out.trans' (KeepT.of_below' hr2))
      have B2 := Lib.hid (B1.out.below hr2)
      have S2 := Lib.hid (sane_below S1.out (by first | omega | simp) hr2)
      have hz2 : wq.heap.size < w2.heap.size := by have := hr2.size; first | omega | (simp at this; omega)
      obtain ⟨Ar, cr, rfl, _⟩ := ownr.slice
      generalize hRR : readsR t = R at *
      clear hr2 ownr O1 K1 B1 S1 hRR q2 q3 q4 q5
      go_wp2_with (at_builtin; refine wpList_appG rfl _ _ _ rfl strT rfl O2.out Ar R.length cr (R.map Value.string) rfl (Own.rd RR.out) (by intro u hu; obtain ⟨s, _, rfl⟩ := List.mem_map.1 hu; rfl) (by simp only [maxLen]; omega) (by omega) ?_; intro v3 w3 own3 gr3; obtain ⟨M, hM⟩ : ∃ M : List ByteArray, M = putU 1 aj xs ++ R := ⟨_, rfl⟩; have O3 : Hid (OwnStrs w0 w3 v3 M) := Lib.hid (by rw [hM]; skip; unfold OwnStrs; rw [List.length_append, List.map_append]; exact own3); have HM := Lib.hid hM; clear hM; have KT3 := gr3.keepT O2.out; have K3 := Lib.hid (K2.out.trans' KT3); have B3 := Lib.hid (B2.out.keepS KT3 S2.out); have hz3 : wq.heap.size < w3.heap.size := (by have := KT3.size; omega); have S3 := Lib.hid (sane_keep S2.out (by omega) KT3); obtain ⟨A3, c3, rfl, _⟩ := O3.out.slice; have q6 := B3.out 6 _ rfl; have q7 := B3.out 7 _ rfl; clear own3 gr3 KT3 O2 K2 B2 S2)
      have hml : M.length ≤ (putU 1 aj xs).length + R.length := by rw [HM.out, List.length_append]; omega
      have hbl := usesGs_len M body
      have hx1 : M.length + 2 * totGs body ≤ 10000000 := by omega
      have hx2 : totGs body ≤ 1048577 := by omega
      have hx3 : (usesGs M body).length + 2 * totGs els ≤ 10000000 := by omega
      have hx4 : totGs els ≤ 1048577 := by omega
      go_region_held3 (fun w' => w'.cell? ⟨wq.heap.size, 6, none⟩ = some (.slice bA body.length bc) ∧ w'.cell? ⟨wq.heap.size, 7, none⟩ = some (.slice eA els.length ec))
        (first | go_keep | exact ⟨kp9.cellT S8.out (B8.out 6 _ rfl), kp9.cellT S8.out (B8.out 7 _ rfl)⟩ | exact ⟨B8.out 6 _ rfl, B8.out 7 _ rfl⟩)
        (first
          | (go_at_call 41; (with_reducible refine (VB.out bA bc w0 _ _ M RB.out (by exact O3.out.below (Below.refl _ _).drew) hb2 hb3 hx1 hx2).mono ?_); rintro e w8 ⟨v8, rfl, own8, kp8⟩; have kq8 : KeepT 9 w3 w8 := KeepT.trans' (KeepT.of_below' (w' := w3.drew) (Below.refl _ _).drew) kp8; have K8 := Lib.hid (K3.out.trans' kq8); have B8 := Lib.hid (B3.out.keepS kq8 S3.out); have S8 := Lib.hid (sane_keep S3.out hz3 kq8); have O8 := Lib.hid own8)
          | (go_at_call 41; (with_reducible refine (VE.out eA ec w0 _ _ (usesGs M body) RE.out (by exact O8.out) he2 he3 hx3 hx4).mono ?_); rintro e w9 ⟨v9, rfl, own9, kp9⟩))
      rw [HM.out, ← HN.out] at own9
      have O9 := Lib.hid (And.intro own9 (K8.out.trans' kp9))
      obtain ⟨A9, c9, rfl, _⟩ := own9.slice
      clear own8 own9 kp8 kp9 q6 q7
      go_wp2_with fail
      go_roundw
      case rel => exact ⟨j + 1, by omega, by go_num, A9, c9, rfl, O9⟩
      case measure => simp [intOf]; omega
    · skip
      have HU : Hid (putU 6 aj xs = aj ++ [xs]) := Lib.hid (putU_yes (by decide) _ _)
      go_wp2_with (at_builtin; refine wpList_appG_new (wq.heap.size + 1) (by simp) rfl _ _ _ rfl strT OB.out _ 1 rfl rfl rfl (by simp [Value.oneCell']) (by simp only [maxLen]; omega) (by omega) ?_; intro v1 w1 own1 gr1; have O1 : Hid (OwnStrs w0 w1 v1 (putU 6 aj xs)) := Lib.hid (by rw [HU.out]; unfold OwnStrs; rw [List.length_append, ← map_snoc]; exact own1); have KT1 := gr1.keepT OB.out; have K1 := Lib.hid (KB.out.trans' KT1); have B1 := Lib.hid (BX.out.keepS KT1 SB.out); have hz1 : wq.heap.size < w1.heap.size := (by have := KT1.size; simp at this; omega); have S1 := Lib.hid (sane_keep SB.out (by simp) KT1); obtain ⟨A1, c1, rfl, _⟩ := O1.out.slice; have q2 := B1.out 2 _ rfl; have q3 := B1.out 3 _ rfl; have q4 := B1.out 4 _ rfl; have q5 := B1.out 5 _ rfl; clear own1 gr1 KT1 OB KB BX SB)
      have hpl := putU_len 6 aj xs
      refine (spec_ReadsOf t tk tn ts tA tm tc _ (TT.out.belowA O1.out.2) (by omega)).mono ?_
      rintro e w2 ⟨vr, rfl, ownr⟩
      have hr2 := ownr.2
      have RR := Lib.hid ownr
      have O2 := Lib.hid (O1.out.below hr2)
      have K2 := Lib.hid (K1.out.trans' (KeepT.of_below' hr2))
      have B2 := Lib.hid (B1.out.below hr2)
      have S2 := Lib.hid (sane_below S1.out (by first | omega | simp) hr2)
      have hz2 : wq.heap.size < w2.heap.size := by have := hr2.size; first | omega | (simp at this; omega)
      obtain ⟨Ar, cr, rfl, _⟩ := ownr.slice
      generalize hRR : readsR t = R at *
      clear hr2 ownr O1 K1 B1 S1 hRR q2 q3 q4 q5
      go_wp2_with (at_builtin; refine wpList_appG rfl _ _ _ rfl strT rfl O2.out Ar R.length cr (R.map Value.string) rfl (Own.rd RR.out) (by intro u hu; obtain ⟨s, _, rfl⟩ := List.mem_map.1 hu; rfl) (by simp only [maxLen]; omega) (by omega) ?_; intro v3 w3 own3 gr3; obtain ⟨M, hM⟩ : ∃ M : List ByteArray, M = putU 6 aj xs ++ R := ⟨_, rfl⟩; have O3 : Hid (OwnStrs w0 w3 v3 M) := Lib.hid (by rw [hM]; skip; unfold OwnStrs; rw [List.length_append, List.map_append]; exact own3); have HM := Lib.hid hM; clear hM; have KT3 := gr3.keepT O2.out; have K3 := Lib.hid (K2.out.trans' KT3); have B3 := Lib.hid (B2.out.keepS KT3 S2.out); have hz3 : wq.heap.size < w3.heap.size := (by have := KT3.size; omega); have S3 := Lib.hid (sane_keep S2.out (by omega) KT3); obtain ⟨A3, c3, rfl, _⟩ := O3.out.slice; have q6 := B3.out 6 _ rfl; have q7 := B3.out 7 _ rfl; clear own3 gr3 KT3 O2 K2 B2 S2)
      have hml : M.length ≤ (putU 6 aj xs).length + R.length := by rw [HM.out, List.length_append]; omega
      have hbl := usesGs_len M body
      have hx1 : M.length + 2 * totGs body ≤ 10000000 := by omega
      have hx2 : totGs body ≤ 1048577 := by omega
      have hx3 : (usesGs M body).length + 2 * totGs els ≤ 10000000 := by omega
      have hx4 : totGs els ≤ 1048577 := by omega
      go_region_held3 (fun w' => w'.cell? ⟨wq.heap.size, 6, none⟩ = some (.slice bA body.length bc) ∧ w'.cell? ⟨wq.heap.size, 7, none⟩ = some (.slice eA els.length ec))
        (first | go_keep | exact ⟨kp9.cellT S8.out (B8.out 6 _ rfl), kp9.cellT S8.out (B8.out 7 _ rfl)⟩ | exact ⟨B8.out 6 _ rfl, B8.out 7 _ rfl⟩)
        (first
          | (go_at_call 41; (with_reducible refine (VB.out bA bc w0 _ _ M RB.out (by exact O3.out.below (Below.refl _ _).drew) hb2 hb3 hx1 hx2).mono ?_); rintro e w8 ⟨v8, rfl, own8, kp8⟩; have kq8 : KeepT 9 w3 w8 := KeepT.trans' (KeepT.of_below' (w' := w3.drew) (Below.refl _ _).drew) kp8; have K8 := Lib.hid (K3.out.trans' kq8); have B8 := Lib.hid (B3.out.keepS kq8 S3.out); have S8 := Lib.hid (sane_keep S3.out hz3 kq8); have O8 := Lib.hid own8)
          | (go_at_call 41; (with_reducible refine (VE.out eA ec w0 _ _ (usesGs M body) RE.out (by exact O8.out) he2 he3 hx3 hx4).mono ?_); rintro e w9 ⟨v9, rfl, own9, kp9⟩))
      rw [HM.out, ← HN.out] at own9
      have O9 := Lib.hid (And.intro own9 (K8.out.trans' kp9))
      obtain ⟨A9, c9, rfl, _⟩ := own9.slice
      clear own8 own9 kp8 kp9 q6 q7
      go_wp2_with fail
      go_roundw
      case rel => exact ⟨j + 1, by omega, by go_num, A9, c9, rfl, O9⟩
      case measure => simp [intOf]; omega
    · skip
      have HU : Hid (putU 7 aj xs = aj ++ [xs]) := Lib.hid (putU_yes (by decide) _ _)
      go_wp2_with (at_builtin; refine wpList_appG_new (wq.heap.size + 1) (by simp) rfl _ _ _ rfl strT OB.out _ 1 rfl rfl rfl (by simp [Value.oneCell']) (by simp only [maxLen]; omega) (by omega) ?_; intro v1 w1 own1 gr1; have O1 : Hid (OwnStrs w0 w1 v1 (putU 7 aj xs)) := Lib.hid (by rw [HU.out]; unfold OwnStrs; rw [List.length_append, ← map_snoc]; exact own1); have KT1 := gr1.keepT OB.out; have K1 := Lib.hid (KB.out.trans' KT1); have B1 := Lib.hid (BX.out.keepS KT1 SB.out); have hz1 : wq.heap.size < w1.heap.size := (by have := KT1.size; simp at this; omega); have S1 := Lib.hid (sane_keep SB.out (by simp) KT1); obtain ⟨A1, c1, rfl, _⟩ := O1.out.slice; have q2 := B1.out 2 _ rfl; have q3 := B1.out 3 _ rfl; have q4 := B1.out 4 _ rfl; have q5 := B1.out 5 _ rfl; clear own1 gr1 KT1 OB KB BX SB)
      have hpl := putU_len 7 aj xs
      refine (spec_ReadsOf t tk tn ts tA tm tc _ (TT.out.belowA O1.out.2) (by omega)).mono ?_
      rintro e w2 ⟨vr, rfl, ownr⟩
      have hr2 := ownr.2
      have RR := Lib.hid ownr
      have O2 := Lib.hid (O1.out.below hr2)
      have K2 := Lib.hid (K1.out.trans' (KeepT.of_below' hr2))
      have B2 := Lib.hid (B1.out.below hr2)
      have S2 := Lib.hid (sane_below S1.out (by first | omega | simp) hr2)
      have hz2 : wq.heap.size < w2.heap.size := by have := hr2.size; first | omega | (simp at this; omega)
      obtain ⟨Ar, cr, rfl, _⟩ := ownr.slice
      generalize hRR : readsR t = R at *
      clear hr2 ownr O1 K1 B1 S1 hRR q2 q3 q4 q5
      go_wp2_with (at_builtin; refine wpList_appG rfl _ _ _ rfl strT rfl O2.out Ar R.length cr (R.map Value.string) rfl (Own.rd RR.out) (by intro u hu; obtain ⟨s, _, rfl⟩ := List.mem_map.1 hu; rfl) (by simp only [maxLen]; omega) (by omega) ?_; intro v3 w3 own3 gr3; obtain ⟨M, hM⟩ : ∃ M : List ByteArray, M = putU 7 aj xs ++ R := ⟨_, rfl⟩; have O3 : Hid (OwnStrs w0 w3 v3 M) := Lib.hid (by rw [hM]; skip; unfold OwnStrs; rw [List.length_append, List.map_append]; exact own3); have HM := Lib.hid hM; clear hM; have KT3 := gr3.keepT O2.out; have K3 := Lib.hid (K2.out.trans' KT3); have B3 := Lib.hid (B2.out.keepS KT3 S2.out); have hz3 : wq.heap.size < w3.heap.size := (by have := KT3.size; omega); have S3 := Lib.hid (sane_keep S2.out (by omega) KT3); obtain ⟨A3, c3, rfl, _⟩ := O3.out.slice; have q6 := B3.out 6 _ rfl; have q7 := B3.out 7 _ rfl; clear own3 gr3 KT3 O2 K2 B2 S2)
      have hml : M.length ≤ (putU 7 aj xs).length + R.length := by rw [HM.out, List.length_append]; omega
      have hbl := usesGs_len M body
      have hx1 : M.length + 2 * totGs body ≤ 10000000 := by omega
      have hx2 : totGs body ≤ 1048577 := by omega
      have hx3 : (usesGs M body).length + 2 * totGs els ≤ 10000000 := by omega
      have hx4 : totGs els ≤ 1048577 := by omega
      go_region_held3 (fun w' => w'.cell? ⟨wq.heap.size, 6, none⟩ = some (.slice bA body.length bc) ∧ w'.cell? ⟨wq.heap.size, 7, none⟩ = some (.slice eA els.length ec))
        (first | go_keep | exact ⟨kp9.cellT S8.out (B8.out 6 _ rfl), kp9.cellT S8.out (B8.out 7 _ rfl)⟩ | exact ⟨B8.out 6 _ rfl, B8.out 7 _ rfl⟩)
        (first
          | (go_at_call 41; (with_reducible refine (VB.out bA bc w0 _ _ M RB.out (by exact O3.out.below (Below.refl _ _).drew) hb2 hb3 hx1 hx2).mono ?_); rintro e w8 ⟨v8, rfl, own8, kp8⟩; have kq8 : KeepT 9 w3 w8 := KeepT.trans' (KeepT.of_below' (w' := w3.drew) (Below.refl _ _).drew) kp8; have K8 := Lib.hid (K3.out.trans' kq8); have B8 := Lib.hid (B3.out.keepS kq8 S3.out); have S8 := Lib.hid (sane_keep S3.out hz3 kq8); have O8 := Lib.hid own8)
          | (go_at_call 41; (with_reducible refine (VE.out eA ec w0 _ _ (usesGs M body) RE.out (by exact O8.out) he2 he3 hx3 hx4).mono ?_); rintro e w9 ⟨v9, rfl, own9, kp9⟩))
      rw [HM.out, ← HN.out] at own9
      have O9 := Lib.hid (And.intro own9 (K8.out.trans' kp9))
      obtain ⟨A9, c9, rfl, _⟩ := own9.slice
      clear own8 own9 kp8 kp9 q6 q7
      go_wp2_with fail
      go_roundw
      case rel => exact ⟨j + 1, by omega, by go_num, A9, c9, rfl, O9⟩
      case measure => simp [intOf]; omega
    · skip
      have HU : Hid (putU xk aj xs = aj) := Lib.hid (putU_no (use_none e1 e6 e7) _ _)
      have O1 := OB
      have K1 := KB
      have B1 := BX
      have S1 := SB
      clear OB KB BX SB
      go_wp2_with fail
      have hpl := putU_len xk aj xs
      refine (spec_ReadsOf t tk tn ts tA tm tc _ (TT.out.belowA O1.out.2) (by omega)).mono ?_
      rintro e w2 ⟨vr, rfl, ownr⟩
      have hr2 := ownr.2
      have RR := Lib.hid ownr
      have O2 := Lib.hid (O1.out.below hr2)
      have K2 := Lib.hid (K1.out.trans' (KeepT.of_below' hr2))
      have B2 := Lib.hid (B1.out.below hr2)
      have S2 := Lib.hid (sane_below S1.out (by first | omega | simp) hr2)
      have hz2 : wq.heap.size < w2.heap.size := by have := hr2.size; first | omega | (simp at this; omega)
      obtain ⟨Ar, cr, rfl, _⟩ := ownr.slice
      generalize hRR : readsR t = R at *
      clear hr2 ownr O1 K1 B1 S1 hRR h0k
      go_wp2_with (at_builtin; refine wpList_appG rfl _ _ _ rfl strT rfl O2.out Ar R.length cr (R.map Value.string) rfl (Own.rd RR.out) (by intro u hu; obtain ⟨s, _, rfl⟩ := List.mem_map.1 hu; rfl) (by simp only [maxLen]; omega) (by omega) ?_; intro v3 w3 own3 gr3; obtain ⟨M, hM⟩ : ∃ M : List ByteArray, M = putU xk aj xs ++ R := ⟨_, rfl⟩; have O3 : Hid (OwnStrs w0 w3 v3 M) := Lib.hid (by rw [hM]; rw [HU.out]; unfold OwnStrs; rw [List.length_append, List.map_append]; exact own3); have HM := Lib.hid hM; clear hM; have KT3 := gr3.keepT O2.out; have K3 := Lib.hid (K2.out.trans' KT3); have B3 := Lib.hid (B2.out.keepS KT3 S2.out); have hz3 : wq.heap.size < w3.heap.size := (by have := KT3.size; omega); have S3 := Lib.hid (sane_keep S2.out (by omega) KT3); obtain ⟨A3, c3, rfl, _⟩ := O3.out.slice; have q6 := B3.out 6 _ rfl; have q7 := B3.out 7 _ rfl; clear own3 gr3 KT3 O2 K2 B2 S2)
      have hml : M.length ≤ (putU xk aj xs).length + R.length := by rw [HM.out, List.length_append]; omega
      have hbl := usesGs_len M body
      have hx1 : M.length + 2 * totGs body ≤ 10000000 := by omega
      have hx2 : totGs body ≤ 1048577 := by omega
      have hx3 : (usesGs M body).length + 2 * totGs els ≤ 10000000 := by omega
      have hx4 : totGs els ≤ 1048577 := by omega
      go_region_held3 (fun w' => w'.cell? ⟨wq.heap.size, 6, none⟩ = some (.slice bA body.length bc) ∧ w'.cell? ⟨wq.heap.size, 7, none⟩ = some (.slice eA els.length ec))
        (first | go_keep | exact ⟨kp9.cellT S8.out (B8.out 6 _ rfl), kp9.cellT S8.out (B8.out 7 _ rfl)⟩ | exact ⟨B8.out 6 _ rfl, B8.out 7 _ rfl⟩)
        (first
          | (go_at_call 41; (with_reducible refine (VB.out bA bc w0 _ _ M RB.out (by exact O3.out.below (Below.refl _ _).drew) hb2 hb3 hx1 hx2).mono ?_); rintro e w8 ⟨v8, rfl, own8, kp8⟩; have kq8 : KeepT 9 w3 w8 := KeepT.trans' (KeepT.of_below' (w' := w3.drew) (Below.refl _ _).drew) kp8; have K8 := Lib.hid (K3.out.trans' kq8); have B8 := Lib.hid (B3.out.keepS kq8 S3.out); have S8 := Lib.hid (sane_keep S3.out hz3 kq8); have O8 := Lib.hid own8)
          | (go_at_call 41; (with_reducible refine (VE.out eA ec w0 _ _ (usesGs M body) RE.out (by exact O8.out) he2 he3 hx3 hx4).mono ?_); rintro e w9 ⟨v9, rfl, own9, kp9⟩))
      rw [HM.out, ← HN.out] at own9
      have O9 := Lib.hid (And.intro own9 (K8.out.trans' kp9))
      obtain ⟨A9, c9, rfl, _⟩ := own9.slice
      clear own8 own9 kp8 kp9 q6 q7
      go_wp2_with fail
      go_roundw
      case rel => exact ⟨j + 1, by omega, by go_num, A9, c9, rfl, O9⟩
      case measure => simp [intOf]; omega
theorem spec_l07Uses (l : List St) : UsC l := by
  induction hN : snodess l using Nat.strongRecOn generalizing l with
  | ind N ih =>
    refine spec_l07Uses_at l fun g hg t k s body els e => ?_
    have := snodess_le hg
    have h2 : snodes g = 1 + snodess body + snodess els := by rw [e, snodes]
    exact ⟨ih _ (by omega) body rfl, ih _ (by omega) els rfl⟩
end Go.Proofs.Ytadcebdhgocmhaa
