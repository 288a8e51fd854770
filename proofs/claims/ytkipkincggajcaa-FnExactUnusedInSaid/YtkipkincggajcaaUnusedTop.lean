/- UnusedIn in the program and in the reference: what it comes to. -/
import Derived.Test.YtkipkincggajcaaUnused
import Derived.Test.YtkipkincggajcaaUnkTop
namespace Go.Proofs.Ytkipkincggajcaa
open Go.RowKit
set_option linter.unusedVariables false

def useF (acc : List ByteArray) (g : St) : List ByteArray × Bool := (usedH acc g, true)
mutual
theorem use_visT (acc : List ByteArray) : (g : St) → visT useF acc g = (usedG acc g, true)
  | .mk k s t b e => by
    rw [visT, useF]
    simp only [usedH]
    rw [use_visTs _ b]
    simp only
    rw [use_visTs _ e, usedG_mk]
theorem use_visTs (acc : List ByteArray) : (l : List St) → visTs useF acc l = (usedGs acc l, true)
  | [] => by rw [visTs, usedGs]
  | g :: r => by
    rw [visTs, use_visT acc g]
    simp only
    rw [use_visTs _ r, usedGs]
end
def usedP (l : List Pr) : List ByteArray := l.foldl (fun acc q => usedGs acc q.body) []
def usesP (l : List Pr) : List ByteArray := l.foldl (fun acc q => usesGs acc q.body) []
theorem usedP_take (l : List Pr) (k : Nat) (h : k < l.length) : usedP (l.take (k + 1)) = usedGs (usedP (l.take k)) l[k].body := by
  have e : l.take (k + 1) = l.take k ++ [l[k]] := List.take_succ_eq_append_getElem h
  unfold usedP
  rw [e, List.foldl_append]; rfl
theorem usesP_take (l : List Pr) (k : Nat) (h : k < l.length) : usesP (l.take (k + 1)) = usesGs (usesP (l.take k)) l[k].body := by
  have e : l.take (k + 1) = l.take k ++ [l[k]] := List.take_succ_eq_append_getElem h
  unfold usesP
  rw [e, List.foldl_append]; rfl
theorem usesP_len (l : List Pr) (k : Nat) : (usesP (l.take k)).length ≤ 2 * totPrs (l.take k) := by
  induction k with
  | zero => simp [usesP]
  | succ k ih =>
    by_cases h : k < l.length
    · rw [usesP_take _ _ h, totPrs_take _ _ h]
      have h1 := usesGs_len (usesP (l.take k)) l[k].body
      have h2 : totPr l[k] = l[k].name.size + totGs l[k].body := rfl
      omega
    · rw [List.take_of_length_le (by omega)]
      rw [List.take_of_length_le (by omega)] at ih
      exact ih
theorem has_usesP (l : List Pr) (hg : ∀ q ∈ l, deepGs GdT q.body) : ∀ x, hasS (usesP l) x = hasS (usedP l) x := by
  have key : ∀ (l : List Pr) (a b : List ByteArray), (∀ q ∈ l, deepGs GdT q.body) → (∀ x, hasS a x = hasS b x) → ∀ x, hasS (l.foldl (fun acc q => usesGs acc q.body) a) x = hasS (l.foldl (fun acc q => usedGs acc q.body) b) x := by
    intro l
    induction l with
    | nil => intro a b _ h; exact h
    | cons q r ih => intro a b hg h; exact ih _ _ (fun y hy => hg y (by simp [hy])) (has_uses q.body a b (hg q (by simp)) h)
  exact key l [] [] hg fun _ => rfl
def filtU (used l : List ByteArray) : List ByteArray := l.filter fun n => !hasS used n
theorem filtU_take_no (used l : List ByteArray) (k : Nat) (h : k < l.length) (hn : hasS used l[k] = true) : filtU used (l.take (k + 1)) = filtU used (l.take k) := by
  have e : l.take (k + 1) = l.take k ++ [l[k]] := List.take_succ_eq_append_getElem h
  unfold filtU
  rw [e, List.filter_append]; simp [hn]
theorem filtU_take_yes (used l : List ByteArray) (k : Nat) (h : k < l.length) (hn : hasS used l[k] = false) : filtU used (l.take (k + 1)) = filtU used (l.take k) ++ [l[k]] := by
  have e : l.take (k + 1) = l.take k ++ [l[k]] := List.take_succ_eq_append_getElem h
  unfold filtU
  rw [e, List.filter_append]; simp [hn]
theorem filtU_len (used l : List ByteArray) (k : Nat) : (filtU used (l.take k)).length ≤ l.length := by
  unfold filtU
  have h1 := List.length_filter_le (fun n => !hasS used n) (l.take k)
  have h2 : (l.take k).length ≤ l.length := by rw [List.length_take]; omega
  omega
theorem filtU_eq {a b : List ByteArray} (h : ∀ x, hasS a x = hasS b x) (l : List ByteArray) : filtU a l = filtU b l := by
  unfold filtU
  congr 1
  funext n
  rw [h n]
noncomputable def unuR (p : Pg) : List ByteArray := if okPg p = true then filtU (usedP p.procs) (p.globals ++ p.locks) else []
theorem unuR_yes {p : Pg} (h : okPg p = true) : unuR p = filtU (usedP p.procs) (p.globals ++ p.locks) := by simp [unuR, h]
theorem unuR_no {p : Pg} (h : okPg p = false) : unuR p = [] := by simp [unuR, h]
theorem okPg_lists {p : Pg} (h : okPg p = true) : p.globals.length ≤ 6 ∧ p.locks.length ≤ 6 := by
  unfold okPg namesB at h
  simp only [Bool.and_eq_true, decide_eq_true_eq] at h
  exact ⟨h.1.1.1.1, h.1.1.2.1⟩
theorem unuR_len {p : Pg} (htot : totPg p ≤ 1048576) : (unuR p).length ≤ 10000000 := by
  cases h : okPg p with
  | false => rw [unuR_no h]; simp
  | true =>
    rw [unuR_yes h]
    have h1 := filtU_len (usedP p.procs) (p.globals ++ p.locks) (p.globals ++ p.locks).length
    rw [List.take_of_length_le (Nat.le_refl _), List.length_append] at h1
    have h2 := okPg_lists h
    omega
theorem unuR_uses {p : Pg} (h : okPg p = true) : unuR p = filtU (usesP p.procs) (p.globals ++ p.locks) := by
  rw [unuR_yes h]
  exact filtU_eq (fun x => (has_usesP p.procs (fun q hq => by
    obtain ⟨i, hi, rfl⟩ := List.getElem_of_mem hq
    exact okPr_good h hi) x).symm) _
/-- the closure that gathers the names that are used -/
def useU (W1 : World) (go : Nat) : Uses (List ByteArray) where
  k := 122
  caps := #[.pointer (some ⟨go, 0, none⟩)]
  f := useF
  I := fun acc w => (∃ v, OutAt W1.heap.size go w v acc) ∧ Keep (fun i => i ≠ go) W1 w
  K := fun _ w i => i ≠ go ∧ (i < W1.heap.size ∨ Sane 9 w i)
  Bd := fun acc n => acc.length + 128 * n ≤ 10000000
theorem useU_f (W1 : World) (go : Nat) : (useU W1 go).f = useF := rfl
theorem useU_ok (W1 : World) (go : Nat) : (useU W1 go).OkG GdT where
  step := by
    rintro acc m x g w hbd ⟨⟨v, ho⟩, hk⟩ hs hg
    have hbd' : acc.length + 128 * (m + 1) ≤ 10000000 := hbd
    refine (use_step W1.heap.size go acc x g w v hk.size (by omega) ho hs hg).mono ?_
    rintro e w' ⟨he, v', ho', hgr⟩
    have hk' : Keep (fun i => i ≠ go ∧ (i < W1.heap.size ∨ Sane 9 w i)) w w' := hgr.keep.mono fun i _ hi => ⟨hi.1, ho.term hi⟩
    refine ⟨he, ⟨⟨v', ho'⟩, hk.trans hk' fun i hi h => ⟨h, .inl hi⟩⟩, hk', fun i hi h => ⟨h.1, ?_⟩, ?_⟩
    · rcases h.2 with h2 | h2
      · exact .inl h2
      · exact .inr fun cur e => h2 cur ((hk'.block i hi h).symm.trans e)
    have := usedH_len acc g hg
    show (usedH acc g).length + 128 * m ≤ 10000000
    omega
  enter := fun args w => by kernel_rfl
  new := by
    rintro acc w cs ⟨⟨v, ho⟩, hk⟩
    refine ⟨⟨⟨v, ho.alloc _⟩, hk.alloc _⟩, ⟨?_, .inr (sane_new (by decide))⟩, fun i hi hK => ⟨hK.1, hK.2.elim .inl fun h => .inr fun cur e => h cur ((heap_alloc_lt hi).symm.trans e)⟩⟩
    have := lt_of_block ho.at'; omega
  less := fun st m n h k => by
    have k' : st.length + 128 * n ≤ 10000000 := k
    show st.length + 128 * m ≤ 10000000
    omega
set_option maxHeartbeats 1600000 in
set_option maxRecDepth 100000 in
theorem impl_UnusedIn (p : Pg) (x : V3) (w : World) (hp : PgIs w x p) (htot : totPg p ≤ 1048576) :
    Calls Try.prog 50 #[x.val p] w fun e w' => ∃ v', e = .returned v' ∧ OwnStrs w w' v' (unuR p) := by
  have HP := Lib.hid hp
  have hpl := hp.p1
  have hpc := hp.p2
  obtain ⟨gA, gc, lA, lc, pA, pc⟩ := x
  unfold V3.val
  simp only at hpl hpc ⊢
  unfold maxLen at hpc
  clear hp
  cases h : okPg p with
  | false =>
    have HU := Lib.hid (unuR_no h)
    go_enter Try.func50, Try.ntmps50
    go_wp2_with fail
    refine (impl_ProgOk p ⟨gA, gc, lA, lc, pA, pc⟩ _ (HP.out.belowA (by repeat' (first | exact Below.refl _ _ | exact Nat.le_refl _ | (refine Below.alloc ?_ ?_ _) | (refine Below.setCell ?_ ?_ _) | (refine Below.drew ?_) | (refine below_drewN ?_ _) | assumption | (simp; done) | (simp; omega)))) htot).mono ?_
    rintro e w1 ⟨rfl, b1⟩
    have B1 : Hid (Below w.heap.size w w1) := Lib.hid (Below.trans (by repeat' (first | exact Below.refl _ _ | exact Nat.le_refl _ | (refine Below.alloc ?_ ?_ _) | (refine Below.setCell ?_ ?_ _) | (refine Below.drew ?_) | (refine below_drewN ?_ _) | assumption | (simp; done) | (simp; omega))) (b1.mono (by simp)))
    rw [h]
    clear b1 h
    go_wp2_with fail
    go_ret
    exact ⟨_, rfl, by rw [HU.out]; exact OwnStrs.nil B1.out⟩
  | true =>
  have HU := Lib.hid (unuR_yes h)
  have OK := Lib.hid h
  have hpn := (okPg_procs h).1
  have hgl := (okPg_lists h).1
  have hll := (okPg_lists h).2
  go_enter Try.func50, Try.ntmps50
  go_wp2_with fail
  refine (impl_ProgOk p ⟨gA, gc, lA, lc, pA, pc⟩ _ (HP.out.belowA (by repeat' (first | exact Below.refl _ _ | exact Nat.le_refl _ | (refine Below.alloc ?_ ?_ _) | (refine Below.setCell ?_ ?_ _) | (refine Below.drew ?_) | (refine below_drewN ?_ _) | assumption | (simp; done) | (simp; omega)))) htot).mono ?_
  rintro e w1 ⟨rfl, b1⟩
  have B1 : Hid (Below w.heap.size w w1) := Lib.hid (Below.trans (by repeat' (first | exact Below.refl _ _ | exact Nat.le_refl _ | (refine Below.alloc ?_ ?_ _) | (refine Below.setCell ?_ ?_ _) | (refine Below.drew ?_) | (refine below_drewN ?_ _) | assumption | (simp; done) | (simp; omega))) (b1.mono (by simp)))
  have BX1 : Hid (BoxB w1 w.heap.size [.slice gA p.globals.length gc, .slice lA p.locks.length lc, .slice pA p.procs.length pc]) := Lib.hid (BoxB.below (BoxB.lit rfl) b1)
  have hz0 : w.heap.size < w1.heap.size := by have := b1.size; simp at this; omega
  have p0 := BX1.out 0 _ rfl
  have p1 := BX1.out 1 _ rfl
  have p2 := BX1.out 2 _ rfl
  rw [h]
  clear b1 h
  go_wp2_with fail
  generalize hW : w1.alloc (.cells #[.slice none 0 0] 44) = W1
  have b11 : Below w1.heap.size w1 W1 := by rw [← hW]; exact Below.alloc (Below.refl _ _) (Nat.le_refl _) _
  have hz3 : W1.heap.size = w1.heap.size + 1 := by rw [← hW]; simp
  have B11 := Lib.hid (B1.out.trans (b11.mono B1.out.size))
  have BXW := Lib.hid (BX1.out.below b11)
  have OO : Hid (OutAt W1.heap.size w1.heap.size W1 (.slice none 0 0) []) := Lib.hid ⟨by rw [← hW]; exact heap_alloc_new _ _, ⟨World.ownsRow_nil _ _ _ _, Nat.le_refl _⟩⟩
  clear hW b11 p0 p1 p2 BX1
  go_loopw [15] (fun i wr => ∃ k : Nat, k ≤ p.procs.length ∧ i = .int .i64 k ∧ Hid ((∃ v, OutAt W1.heap.size w1.heap.size wr v (usedP (p.procs.take k))) ∧ Keep (fun i => i ≠ w1.heap.size) W1 wr ∧ (usedP (p.procs.take k)).length + 128 * (60 * (8 - k)) ≤ 10000000)) (fun i _ => p.procs.length - (intOf i).toNat)
  case atStart => exact ⟨0, Nat.zero_le _, rfl, Lib.hid ⟨⟨_, OO.out⟩, Keep.refl _ _, by simp [usedP]⟩⟩
  case round =>
    obtain ⟨k, hk, rfl, HR⟩ := hrel
    rename World => wq
    obtain ⟨⟨v, ho⟩, hkp, hbd⟩ := HR.out
    have HO := Lib.hid ho
    have HK := Lib.hid hkp
    have BW := Lib.hid (B11.out.trans (hkp.below B11.out.size (fun b hb => by omega)))
    by_cases hlt : k < p.procs.length
    · obtain ⟨b, off, y, rfl, d0, d1, hnm, hym, _, hbc, hcm, row⟩ := rd_proc HP.out.p3 hlt
      replace d0 := cell_keep BW.out d0
      replace d1 := cell_keep BW.out d1
      rw [hym] at d1
      have ROW := Lib.hid row
      have hlb := cell_lt d0
      have hsn := fit_bound OK.out hlt
      have GG := Lib.hid (okPr_good OK.out hlt)
      have HT := Lib.hid (usedP_take p.procs k hlt)
      have h0k : (0 : Int) ≤ (k : Int) := by omega
      have hzr := HK.out.size
      clear hnm hym row ho hkp HR
      go_wp2_with fail
      refine (impl_visitStmtsG GdT (useU W1 w1.heap.size) (useU_ok W1 w1.heap.size) p.procs[k].body (usedP (p.procs.take k)) (60 * (8 - (k + 1))) y.A y.c _ ?_ ⟨⟨_, HO.out.alloc _⟩, HK.out.alloc _⟩ ?_ hbc hcm GG.out).mono ?_
      · show (usedP (p.procs.take k)).length + 128 * (60 * (8 - (k + 1)) + snodess p.procs[k].body) ≤ 10000000
        omega
      · exact ROW.out.keep (fun q hq _ => (Below.trans BW.out ((Below.alloc (Below.refl _ _) (Nat.le_refl _) _).mono BW.out.size)).cell hq) (fun i hi _ => ⟨by omega, .inl (by omega)⟩)
      rintro e w5 ⟨rfl, ⟨⟨v5, o5⟩, k5⟩, _, _, bd5⟩
      rw [useU_f, use_visTs] at o5 bd5
      simp only at o5
      rw [← HT.out] at o5 bd5
      have R5 : Hid ((∃ v, OutAt W1.heap.size w1.heap.size w5 v (usedP (p.procs.take (k + 1)))) ∧ Keep (fun i => i ≠ w1.heap.size) W1 w5 ∧ (usedP (p.procs.take (k + 1))).length + 128 * (60 * (8 - (k + 1))) ≤ 10000000) := Lib.hid ⟨⟨v5, o5⟩, k5, bd5⟩
      clear o5 k5 bd5
      go_wp2_with fail
      go_roundw
      case rel => exact ⟨k + 1, by omega, by go_num, R5⟩
      case measure => simp [intOf]; omega
    · have TK : Hid (p.procs.take k = p.procs) := Lib.hid (List.take_of_length_le (by omega))
      have HO2 : Hid (OutAt W1.heap.size w1.heap.size wq v (usedP p.procs)) := Lib.hid (by have := HO.out; rwa [TK.out] at this)
      have c1 := cell_of_one HO2.out.at'
      have BXR : Hid (BoxB wq w.heap.size [.slice gA p.globals.length gc, .slice lA p.locks.length lc, .slice pA p.procs.length pc]) := Lib.hid (BXW.out.keepS HK.out (by omega))
      have p0 := BXR.out 0 _ rfl
      have p1 := BXR.out 1 _ rfl
      have PQ := Lib.hid (HP.out.belowA BW.out)
      obtain ⟨A7, c7, rfl, _⟩ := HO2.out.own.strs.slice
      have CU := Lib.hid c1
      clear ho hkp HR HO HK
      go_wp2_with fail
      refine (slices_Concat2 wq.heap.size gA lA gc lc p.globals p.locks _ (by rw [World.cell?_alloc_new]; rfl) (by rw [World.cell?_alloc_new]; rfl) (PQ.out.gs.below (Below.alloc (Below.refl _ _) (Nat.le_refl _) _)) (PQ.out.ls.below (Below.alloc (Below.refl _ _) (Nat.le_refl _) _)) (by omega) (by omega)).mono ?_
      rintro e w5 ⟨A5, c5, rfl, own5⟩
      have B5 : Hid (Below wq.heap.size wq w5) := Lib.hid (Below.trans (Below.alloc (Below.refl _ _) (Nat.le_refl _) _) (own5.2.mono (by simp)))
      have O5 := Lib.hid own5
      have hal : (p.globals ++ p.locks).length ≤ 12 := by rw [List.length_append]; omega
      have hc5 := own_cap' own5
      unfold maxLen at hc5
      clear own5 p0 p1 c1
      generalize hall : p.globals ++ p.locks = all at *
      clear hall
      go_wp2_with fail
      go_loopw [6, 31] (fun lv i wr => ∃ j : Nat, j ≤ all.length ∧ i = .int .i64 j ∧ ∃ A' c', lv = .slice A' (filtU (usedP p.procs) (all.take j)).length c' ∧ Hid (OwnStrs w5 wr (.slice A' (filtU (usedP p.procs) (all.take j)).length c') (filtU (usedP p.procs) (all.take j)))) (fun _ i _ => all.length - (intOf i).toNat)
      case atStart => exact ⟨0, Nat.zero_le _, rfl, none, 0, rfl, Lib.hid (OwnStrs.nil (Below.refl _ _))⟩
      case round =>
        obtain ⟨j, hj, rfl, A', c', rfl, HF⟩ := hrel
        have HF2 := Lib.hid HF.out.2
        have cu := cell_keep HF2.out (cell_keep B5.out CU.out)
        have hfl := filtU_len (usedP p.procs) all j
        by_cases hlt2 : j < all.length
        · obtain ⟨rb, ro, rfl, hcell⟩ := rd_str ((Own.rd O5.out).below HF2.out) hlt2
          have UI : Hid (IsStrs wr (.slice A7 (usedP p.procs).length c7) (usedP p.procs)) := Lib.hid ((HO2.out.own.isStrs.below B5.out).below HF2.out)
          have h0j : (0 : Int) ≤ (j : Int) := by omega
          have h1j : (j : Int) < (all.length : Int) := by omega
          cases hh : hasS (usedP p.procs) all[j] with
          | true =>
            have HT := Lib.hid (filtU_take_no (usedP p.procs) all j hlt2 hh)
            have HH := Lib.hid hh
            clear hh
            go_wp2_with fail
            refine (slices_Contains _ (usedP p.procs) all[j] _ UI.out).mono ?_
            rintro e w6 ⟨rfl, rfl⟩
            rw [HH.out]
            go_wp2_with fail
            go_roundw
            case rel => exact ⟨j + 1, by omega, by go_num, A', c', by rw [HT.out], by rw [HT.out]; exact HF⟩
            case measure => simp [intOf]; omega
          | false =>
            have HT := Lib.hid (filtU_take_yes (usedP p.procs) all j hlt2 hh)
            have HH := Lib.hid hh
            clear hh
            go_wp2_with fail
            refine (slices_Contains _ (usedP p.procs) all[j] _ UI.out).mono ?_
            rintro e w6 ⟨rfl, rfl⟩
            rw [HH.out]
            go_wp2_with (at_builtin; refine wpList_appG_new wr.heap.size rfl rfl _ _ _ rfl strT HF.out _ 1 rfl rfl rfl (by simp [Value.oneCell']) (by simp only [maxLen]; omega) (by omega) ?_; intro v8 w8 own8 gr8; have O8 : Hid (OwnStrs w5 w8 v8 (filtU (usedP p.procs) (all.take (j + 1)))) := Lib.hid (by rw [HT.out]; unfold OwnStrs; rw [List.length_append, ← map_snoc]; exact own8); obtain ⟨A8, c8, rfl, _⟩ := O8.out.slice; clear own8 gr8)
            go_roundw
            case rel => exact ⟨j + 1, by omega, by go_num, A8, c8, rfl, O8⟩
            case measure => simp [intOf]; omega
        · go_wp2_with fail
          go_ret
          have := HF.out
          rw [List.take_of_length_le (by omega)] at this ⊢
          refine ⟨_, rfl, ?_⟩
          rw [HU.out]
          exact this.base (below_then BW.out B5.out)
end Go.Proofs.Ytkipkincggajcaa
