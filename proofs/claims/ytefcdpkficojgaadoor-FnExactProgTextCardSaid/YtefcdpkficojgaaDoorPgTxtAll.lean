/- Several texts in one: PgTxt, PgSay, PgWrite, PgTxtLaw. -/
import Derived.Test.YtefcdpkficojgaaDoorStTxtAll
import Derived.Test.YtefcdpkficojgaaDoorPgOkLaw
import Derived.Lib.Join
namespace Go.Proofs.YtefcdpkficojgaaDoor
open Go.RowKit
set_option linter.unusedVariables false


def namL : List ByteArray → List UInt8
  | [] => []
  | s :: r => [32] ++ s.data.toList ++ Lib.joinTail [44, 32] (r.map (·.data.toList))
def sepL (j : Nat) : List UInt8 := if 0 < j then [44] else []
theorem namL_snoc (l : List ByteArray) (s : ByteArray) : namL (l ++ [s]) = namL l ++ sepL l.length ++ ([32] ++ s.data.toList) := by
  cases l with
  | nil => simp [namL, sepL, Lib.joinTail]
  | cons x r => simp [namL, sepL, Lib.joinTail]
theorem namL_take (l : List ByteArray) (j : Nat) (h : j < l.length) : namL (l.take (j + 1)) = namL (l.take j) ++ sepL j ++ ([32] ++ l[j].data.toList) := by
  have e : l.take (j + 1) = l.take j ++ [l[j]] := List.take_succ_eq_append_getElem h
  rw [e, namL_snoc, List.length_take, Nat.min_eq_left (by omega)]
theorem namL_join (s : ByteArray) (r : List ByteArray) : namL (s :: r) = [32] ++ Lib.join ((s :: r).map (·.data.toList)) [44, 32] := by
  rw [namL, List.map_cons, Lib.join_cons]; simp
def listL (word : List UInt8) (l : List ByteArray) : List UInt8 := word ++ namL l ++ [59, 10]
def procL (p : Pr) : List UInt8 := [112, 114, 111, 99, 32] ++ p.name.data.toList ++ [32, 123, 10] ++ txtGs 1 p.body ++ [125, 10]
def procsL : List Pr → List UInt8
  | [] => []
  | p :: r => procL p ++ procsL r
theorem procsL_append (l r : List Pr) : procsL (l ++ r) = procsL l ++ procsL r := by
  induction l with
  | nil => simp [procsL]
  | cons t l ih => rw [List.cons_append, procsL, procsL, ih, List.append_assoc]
theorem procsL_take (l : List Pr) (j : Nat) (h : j < l.length) : procsL (l.take (j + 1)) = procsL (l.take j) ++ procL l[j] := by
  have e : l.take (j + 1) = l.take j ++ [l[j]] := List.take_succ_eq_append_getElem h
  rw [e, procsL_append]; simp [procsL]
def wGlob : List UInt8 := [103, 108, 111, 98, 97, 108, 115]
def wLock : List UInt8 := [108, 111, 99, 107, 115]
def pgL (p : Pg) : List UInt8 := listL wGlob p.globals ++ listL wLock p.locks ++ procsL p.procs
noncomputable def pgR (p : Pg) : List UInt8 := if (okPg p && decide ((pgL p).length ≤ 6000)) = true then pgL p else []
theorem pgR_no1 {p : Pg} (h : okPg p = false) : pgR p = [] := by unfold pgR; rw [h]; rfl
theorem pgR_no2 {p : Pg} (h : 6000 < (pgL p).length) : pgR p = [] := by unfold pgR; rw [decide_no (by omega : ¬ (pgL p).length ≤ 6000), Bool.and_false]; rfl
theorem pgR_yes {p : Pg} (h : okPg p = true) (h2 : (pgL p).length ≤ 6000) : pgR p = pgL p := by unfold pgR; rw [h, decide_eq_true h2]; rfl
theorem okPg_parts {p : Pg} (h : okPg p = true) : namesB 6 p.globals = true ∧ namesB 6 p.locks = true ∧ p.procs.length ≤ 8 ∧ ∀ q ∈ p.procs, okPr q = true := by
  unfold okPg at h
  simp only [Bool.and_eq_true, decide_eq_true_eq, List.all_eq_true] at h
  exact ⟨h.1.1.1, h.1.1.2, h.1.2, h.2⟩
theorem okPr_parts {q : Pr} (h : okPr q = true) : q.name.size ≤ 12 ∧ rightGs 6 q.body = true ∧ snodess q.body ≤ 60 := by
  unfold okPr at h
  rw [Bool.and_eq_true] at h
  have h1 := name_len h.1
  rw [size_list] at h1
  exact ⟨h1, fit_inv h.2⟩
theorem names_parts {m : Nat} {l : List ByteArray} (h : namesB m l = true) : l.length ≤ m ∧ ∀ s ∈ l, s.size ≤ 12 := by
  unfold namesB at h
  rw [Bool.and_eq_true, List.all_eq_true, decide_eq_true_eq] at h
  refine ⟨h.1, fun s hs => ?_⟩
  have := name_len (h.2 s hs)
  rwa [size_list] at this
theorem namL_len {l : List ByteArray} (h : ∀ s ∈ l, s.size ≤ 12) : (namL l).length ≤ 14 * l.length := by
  have ht : ∀ r : List ByteArray, (∀ s ∈ r, s.size ≤ 12) → (Lib.joinTail [44, 32] (r.map (·.data.toList))).length ≤ 14 * r.length := by
    intro r
    induction r with
    | nil => intro _; simp [Lib.joinTail]
    | cons x t ih =>
      intro hx
      have h1 := hx x (by simp)
      have h2 := ih (fun s hs => hx s (by simp [hs]))
      unfold Lib.joinTail at h2 ⊢
      rw [List.map_cons, List.map_cons, List.flatten_cons]
      simp only [List.length_append, List.length_cons, List.length_nil, size_list]
      omega
  cases l with
  | nil => simp [namL]
  | cons x r =>
    have h1 := h x (by simp)
    have h2 := ht r (fun s hs => h s (by simp [hs]))
    rw [namL]
    simp only [List.length_append, List.length_cons, List.length_nil, size_list]
    omega
theorem procL_len {q : Pr} (h : okPr q = true) : (procL q).length ≤ 181000 := by
  obtain ⟨h1, h2, h3⟩ := okPr_parts h
  have h4 := txtGs_len h2 (ah := 1) (by omega)
  unfold procL
  simp only [List.length_append, List.length_cons, List.length_nil, size_list]
  omega
theorem procsL_len {l : List Pr} (h : ∀ q ∈ l, okPr q = true) : (procsL l).length ≤ 181000 * l.length := by
  induction l with
  | nil => simp [procsL]
  | cons q r ih =>
    have h1 := procL_len (h q (by simp))
    have h2 := ih (fun x hx => h x (by simp [hx]))
    rw [procsL, List.length_append, List.length_cons]
    omega

set_option maxHeartbeats 3200000 in
set_option maxRecDepth 100000 in
theorem spec_l05List (word : ByteArray) (l : List ByteArray) (A : Option Addr) (c : Nat) (w0 w : World) (v : Value) (acc : List UInt8) (rd : Rd w0 1 A l.length (l.map Value.string)) (hl : l.length ≤ 8) (hs : ∀ s ∈ l, s.size ≤ 12) (hw : word.size ≤ 10) (own : OutB w0 w v acc) (hb : acc.length ≤ 1000000) :
    Calls Tryd.prog 109 #[v, .string word, .slice A l.length c] w fun e w' => ∃ v', e = .returned v' ∧ OutB w0 w' v' (acc ++ listL word.data.toList l) ∧ Grew v v' w w' := by
  have OW := Lib.hid own
  have RW := Lib.hid rd
  have HS := Lib.hid hs
  obtain ⟨A0, c0, rfl, _⟩ := own.slice
  clear own rd hs
  go_enter Tryd.func109, Tryd.ntmps109
  go_wp2_with (at_builtin; refine wpList_outB_str rfl _ _ rfl rfl OW.out word rfl (by omega) ?_; intro v1 w1 own1 kp1)
  have O1 := Lib.hid own1
  have G1 := Lib.hid kp1
  obtain ⟨L1, hL1⟩ : ∃ L, acc ++ word.data.toList = L := ⟨_, rfl⟩
  have hl1 : L1.length ≤ 1000010 := by rw [← hL1, List.length_append, size_list]; omega
  have HL1 := Lib.hid hL1
  rw [hL1] at O1
  clear own1 kp1 hL1
  obtain ⟨A1, c1, rfl, _⟩ := O1.out.slice
  go_wp2_with fail
  go_loopw [0, 7] (fun ov iv wr => ∃ j : Nat, j ≤ l.length ∧ iv = .int .i64 (j : Int) ∧ ∃ A' n c', ov = .slice A' n c' ∧ Hid (n = (L1 ++ namL (l.take j)).length ∧ OutB w0 wr (.slice A' n c') (L1 ++ namL (l.take j)) ∧ Grew (.slice A0 acc.length c0) (.slice A' n c') w wr)) (fun _ iv _ => l.length - (intOf iv).toNat)
  case atStart => exact ⟨0, Nat.zero_le _, rfl, A1, _, c1, rfl, Lib.hid ⟨by simp [namL], by simpa [namL] using O1.out, G1.out⟩⟩
  case round =>
    obtain ⟨j, hj, rfl, A', n, c', rfl, HR⟩ := hrel
    obtain ⟨hn, own, gr⟩ := HR.out
    have O2 := Lib.hid own
    have G2 := Lib.hid gr
    clear own gr HR
    have hnl : (namL (l.take j)).length ≤ 14 * j := by
      have h := namL_len (l := l.take j) (fun s hs => HS.out s (List.mem_of_mem_take hs))
      rw [List.length_take, Nat.min_eq_left hj] at h
      exact h
    obtain ⟨L2, hL2⟩ : ∃ L, L1 ++ namL (l.take j) = L := ⟨_, rfl⟩
    have hl2 : L2.length ≤ 1000200 := by rw [← hL2, List.length_append]; omega
    have HL2 := Lib.hid hL2
    rw [hL2] at O2 hn
    clear hL2 hnl
    subst hn
    by_cases hlt : j < l.length
    case neg =>
      go_wp2_with (at_builtin; refine wpList_outB_some rfl _ _ rfl rfl (O2.out.alloc _) _ 2 2 [59, 10] rfl (Rd.new _ 1 2 _ _ rfl) (by omega) ?_; intro v5 w5 own5 kp5)
      go_ret
      refine ⟨_, rfl, ?_, Grew.link G2.out (Below.alloc (Below.refl _ _) (Nat.le_refl _) _) kp5⟩
      have e : acc ++ listL word.data.toList l = L2 ++ [59, 10] := by rw [← HL2.out, ← HL1.out, List.take_of_length_le (by omega), listL]; simp
      rw [e]
      exact own5
    have HTK := Lib.hid (namL_take l j hlt)
    obtain ⟨nb, noff, rfl, ncell⟩ := rd_str RW.out hlt
    have hsz := HS.out l[j] (List.getElem_mem hlt)
    have HX := Lib.hid (rfl : l[j] = l[j])
    obtain ⟨X, hX⟩ : ∃ X, l[j] = X := ⟨_, rfl⟩
    have HXX := Lib.hid hX
    rw [hX] at hsz ncell
    clear hX HX
    have h0k : (0 : Int) ≤ (j : Int) := by omega
    have h1k : (j : Int) < (l.length : Int) := by omega
    cases hsep : decide (0 < j) with
    | false =>
      have h0j : ¬ (0 : Int) < (j : Int) := by have : ¬ 0 < j := (by simpa using hsep); omega
      have HSP : Hid (sepL j = []) := Lib.hid (by have : ¬ 0 < j := (by simpa using hsep); simp [sepL, this])
      go_upto_region 7 with fail
      have oX := O2.out
      have gr := Grew.refl (.slice A' L2.length c') wr
      have KS : Hid (∀ w', Below w0.heap.size w0 w' → w'.cell? ⟨nb, noff + j, none⟩ = some (.string X)) := Lib.hid (fun w' hb => cell_keep hb ncell)
      go_region_held3 (fun w' => Below w0.heap.size w0 w' ∧ w'.cell? ⟨nb, noff + j, none⟩ = some (.string X))
        (first | exact ⟨below_then2 oX.own (by repeat' (first | exact Below.refl _ _ | exact Nat.le_refl _ | (refine Below.alloc ?_ ?_ _) | (refine Below.setCell ?_ ?_ _) | (refine Below.drew ?_) | (refine below_drewN ?_ _) | assumption | (simp; done) | (simp; omega))), KS.out _ (below_then2 oX.own (by repeat' (first | exact Below.refl _ _ | exact Nat.le_refl _ | (refine Below.alloc ?_ ?_ _) | (refine Below.setCell ?_ ?_ _) | (refine Below.drew ?_) | (refine below_drewN ?_ _) | assumption | (simp; done) | (simp; omega))))⟩ | fail)
        (first
          | (refine step_outB_some (by rfl) _ _ (by rfl) (by rfl) (oX.below (by repeat' (first | exact Below.refl _ _ | exact Nat.le_refl _ | (refine Below.alloc ?_ ?_ _) | (refine Below.setCell ?_ ?_ _) | (refine Below.drew ?_) | (refine below_drewN ?_ _) | assumption | (simp; done) | (simp; omega)))) _ 1 1 [32] (by rfl) (by first | exact (Lies.new oX 32).rd | exact (Lies.new oX 32).rd.drew | exact li.rd | exact li.rd.drew) (by omega) ?_; intro vY wY oY kY; have gr := Grew.link gr (by repeat' (first | exact Below.refl _ _ | exact Nat.le_refl _ | (refine Below.alloc ?_ ?_ _) | (refine Below.setCell ?_ ?_ _) | (refine Below.drew ?_) | (refine below_drewN ?_ _) | assumption | (simp; done) | (simp; omega))) kY; have oX := oY; clear oY kY)
          | (refine step_outB_str (by rfl) _ _ (by rfl) (by rfl) (oX.below (by repeat' (first | exact Below.refl _ _ | exact Nat.le_refl _ | (refine Below.alloc ?_ ?_ _) | (refine Below.setCell ?_ ?_ _) | (refine Below.drew ?_) | (refine below_drewN ?_ _) | assumption | (simp; done) | (simp; omega)))) X (by rfl) (by simp only [List.length_append, List.length_cons, List.length_nil]; omega) ?_; intro vY wY oY kY; have gr := Grew.link gr (by repeat' (first | exact Below.refl _ _ | exact Nat.le_refl _ | (refine Below.alloc ?_ ?_ _) | (refine Below.setCell ?_ ?_ _) | (refine Below.drew ?_) | (refine below_drewN ?_ _) | assumption | (simp; done) | (simp; omega))) kY; have oX := oY; clear oY kY)
          | fail)
      all_goals
        have O8 : Hid (OutB w0 _ _ (L1 ++ namL (l.take (j + 1)))) := Lib.hid (by
          have e : L1 ++ namL (l.take (j + 1)) = L2 ++ [32] ++ X.data.toList := by rw [HTK.out, HSP.out, HXX.out, ← HL2.out]; simp
          rw [e]
          exact oX)
        have G8 := Lib.hid (G2.out.trans gr)
        clear oX gr
        obtain ⟨A9, c9, rfl, _⟩ := O8.out.slice
        go_wp2_with fail
        go_roundw
        case rel => exact ⟨j + 1, by omega, by go_num, A9, _, c9, rfl, Lib.hid ⟨rfl, O8.out, G8.out⟩⟩
        case measure => simp [intOf]; omega
    | true =>
      have h0j : (0 : Int) < (j : Int) := by have : 0 < j := (by simpa using hsep); omega
      have HSP : Hid (sepL j = [44]) := Lib.hid (by have : 0 < j := (by simpa using hsep); simp [sepL, this])
      go_upto_region 6 with fail
      go_upto_region 7 with (at_builtin; refine wpList_outB_some rfl _ _ rfl rfl (O2.out.alloc _) _ 1 1 [44] rfl (Rd.new _ 1 1 _ _ rfl) (by omega) ?_; intro v3 w3 own3 kp3; obtain ⟨L3, hL3⟩ : ∃ L, L2 ++ [44] = L := ⟨_, rfl⟩; have O3 : Hid (OutB w0 w3 v3 L3) := Lib.hid (by rw [← hL3]; exact own3); have HL3 := Lib.hid hL3; have G3 := Lib.hid (Grew.link G2.out (Below.alloc (Below.refl _ _) (Nat.le_refl _) _) kp3); clear own3 kp3 hL3; obtain ⟨A3, c3, rfl, _⟩ := O3.out.slice)
      have hl3 : L3.length ≤ 1000210 := by rw [← HL3.out, List.length_append]; simp only [List.length_cons, List.length_nil]; omega
      have oX := O3.out
      have gr := Grew.refl (.slice A3 L3.length c3) w3
      have KS : Hid (∀ w', Below w0.heap.size w0 w' → w'.cell? ⟨nb, noff + j, none⟩ = some (.string X)) := Lib.hid (fun w' hb => cell_keep hb ncell)
      go_region_held3 (fun w' => Below w0.heap.size w0 w' ∧ w'.cell? ⟨nb, noff + j, none⟩ = some (.string X))
        (first | exact ⟨below_then2 oX.own (by repeat' (first | exact Below.refl _ _ | exact Nat.le_refl _ | (refine Below.alloc ?_ ?_ _) | (refine Below.setCell ?_ ?_ _) | (refine Below.drew ?_) | (refine below_drewN ?_ _) | assumption | (simp; done) | (simp; omega))), KS.out _ (below_then2 oX.own (by repeat' (first | exact Below.refl _ _ | exact Nat.le_refl _ | (refine Below.alloc ?_ ?_ _) | (refine Below.setCell ?_ ?_ _) | (refine Below.drew ?_) | (refine below_drewN ?_ _) | assumption | (simp; done) | (simp; omega))))⟩ | fail)
        (first
          | (refine step_outB_some (by rfl) _ _ (by rfl) (by rfl) (oX.below (by repeat' (first | exact Below.refl _ _ | exact Nat.le_refl _ | (refine Below.alloc ?_ ?_ _) | (refine Below.setCell ?_ ?_ _) | (refine Below.drew ?_) | (refine below_drewN ?_ _) | assumption | (simp; done) | (simp; omega)))) _ 1 1 [32] (by rfl) (by first | exact (Lies.new oX 32).rd | exact (Lies.new oX 32).rd.drew | exact li.rd | exact li.rd.drew) (by omega) ?_; intro vY wY oY kY; have gr := Grew.link gr (by repeat' (first | exact Below.refl _ _ | exact Nat.le_refl _ | (refine Below.alloc ?_ ?_ _) | (refine Below.setCell ?_ ?_ _) | (refine Below.drew ?_) | (refine below_drewN ?_ _) | assumption | (simp; done) | (simp; omega))) kY; have oX := oY; clear oY kY)
          | (refine step_outB_str (by rfl) _ _ (by rfl) (by rfl) (oX.below (by repeat' (first | exact Below.refl _ _ | exact Nat.le_refl _ | (refine Below.alloc ?_ ?_ _) | (refine Below.setCell ?_ ?_ _) | (refine Below.drew ?_) | (refine below_drewN ?_ _) | assumption | (simp; done) | (simp; omega)))) X (by rfl) (by simp only [List.length_append, List.length_cons, List.length_nil]; omega) ?_; intro vY wY oY kY; have gr := Grew.link gr (by repeat' (first | exact Below.refl _ _ | exact Nat.le_refl _ | (refine Below.alloc ?_ ?_ _) | (refine Below.setCell ?_ ?_ _) | (refine Below.drew ?_) | (refine below_drewN ?_ _) | assumption | (simp; done) | (simp; omega))) kY; have oX := oY; clear oY kY)
          | fail)
      all_goals
        have O8 : Hid (OutB w0 _ _ (L1 ++ namL (l.take (j + 1)))) := Lib.hid (by
          have e : L1 ++ namL (l.take (j + 1)) = L3 ++ [32] ++ X.data.toList := by rw [HTK.out, HSP.out, HXX.out, ← HL3.out, ← HL2.out]; simp
          rw [e]
          exact oX)
        have G8 := Lib.hid (G3.out.trans gr)
        clear oX gr
        obtain ⟨A9, c9, rfl, _⟩ := O8.out.slice
        go_wp2_with fail
        go_roundw
        case rel => exact ⟨j + 1, by omega, by go_num, A9, _, c9, rfl, Lib.hid ⟨rfl, O8.out, G8.out⟩⟩
        case measure => simp [intOf]; omega
set_option maxHeartbeats 12800000 in
set_option maxRecDepth 100000 in
theorem spec_ProgText (p : Pg) (x : V3) (w : World) (hp : PgIs w x p) (htot : totPg p ≤ 1048576) :
    Calls Tryd.prog 46 #[x.val p] w fun e w' => e = .returned (.string ⟨(pgR p).toArray⟩) ∧ Below w.heap.size w w' := by
  obtain ⟨gA, gc, lA, lc, pA, pc⟩ := x
  have HP := Lib.hid hp
  have hpl := hp.p1
  have hpc := hp.p2
  have hgl := hp.g1
  have hgc := hp.g2
  have hll := hp.l1
  have hlc := hp.l2
  simp only at hpl hpc hgl hgc hll hlc
  unfold maxLen at hpc hgc hlc
  clear hp
  unfold V3.val
  simp only
  cases hok : okPg p with
  | false =>
    have F := Lib.hid (pgR_no1 hok)
    go_enter Tryd.func46, Tryd.ntmps46
    go_wp2_with fail
    refine (spec_ProgOk p ⟨gA, gc, lA, lc, pA, pc⟩ _ (HP.out.belowA (by repeat' (first | exact Below.refl _ _ | exact Nat.le_refl _ | (refine Below.alloc ?_ ?_ _) | (refine Below.setCell ?_ ?_ _) | (refine Below.drew ?_) | (refine below_drewN ?_ _) | assumption | (simp; done) | (simp; omega)))) htot).mono ?_
    rintro e w1 ⟨rfl, b1⟩
    have B1 : Hid (Below w.heap.size w w1) := Lib.hid (Below.trans (by repeat' (first | exact Below.refl _ _ | exact Nat.le_refl _ | (refine Below.alloc ?_ ?_ _) | (refine Below.setCell ?_ ?_ _) | (refine Below.drew ?_) | (refine below_drewN ?_ _) | assumption | (simp; done) | (simp; omega))) (b1.mono (by simp)))
    rw [hok]
    clear b1
    go_wp2_with fail
    go_ret
    exact ⟨by rw [F.out]; rfl, B1.out⟩
  | true =>
  obtain ⟨hg, hlk, hpn, hpr⟩ := okPg_parts hok
  obtain ⟨hg1, hg2⟩ := names_parts hg
  obtain ⟨hk1, hk2⟩ := names_parts hlk
  have HG2 := Lib.hid hg2
  have HK2 := Lib.hid hk2
  have HPR := Lib.hid hpr
  have HOK := Lib.hid hok
  have hgn := namL_len hg2
  have hkn := namL_len hk2
  clear hg hlk hg2 hk2 hpr
  go_enter Tryd.func46, Tryd.ntmps46
  go_wp2_with fail
  refine (spec_ProgOk p ⟨gA, gc, lA, lc, pA, pc⟩ _ (HP.out.belowA (by repeat' (first | exact Below.refl _ _ | exact Nat.le_refl _ | (refine Below.alloc ?_ ?_ _) | (refine Below.setCell ?_ ?_ _) | (refine Below.drew ?_) | (refine below_drewN ?_ _) | assumption | (simp; done) | (simp; omega)))) htot).mono ?_
  rintro e w1 ⟨rfl, b1⟩
  have B1 : Hid (Below w.heap.size w w1) := Lib.hid (Below.trans (by repeat' (first | exact Below.refl _ _ | exact Nat.le_refl _ | (refine Below.alloc ?_ ?_ _) | (refine Below.setCell ?_ ?_ _) | (refine Below.drew ?_) | (refine below_drewN ?_ _) | assumption | (simp; done) | (simp; omega))) (b1.mono (by simp)))
  have BX : BoxB w1 w.heap.size [.slice gA p.globals.length gc, .slice lA p.locks.length lc, .slice pA p.procs.length pc] := BoxB.below (BoxB.lit rfl) b1
  have y0 := BX 0 _ rfl
  have y1 := BX 1 _ rfl
  have y2 := BX 2 _ rfl
  have SNW : Hid (Sane 5 w1 w.heap.size) := Lib.hid (sane_below (sane_new (by decide)) (by simp) b1)
  have hz := cell_lt y0
  simp only at hz
  rw [hok]
  clear b1 BX hok
  generalize hgw : w.heap.size = g at *
  have HGW := Lib.hid hgw
  clear hgw
  go_upto_region 3 with fail
  have B1g : Hid (Below w.heap.size w w1) := Lib.hid (by rw [HGW.out]; exact B1.out)
  have KS : Hid (∀ w', KeepT 5 w1 w' → w'.cell? ⟨g, 0, none⟩ = some (.slice gA p.globals.length gc) ∧ w'.cell? ⟨g, 1, none⟩ = some (.slice lA p.locks.length lc) ∧ w'.cell? ⟨g, 2, none⟩ = some (.slice pA p.procs.length pc)) := Lib.hid (fun w' hk => ⟨KeepT.cellT hk SNW.out y0, KeepT.cellT hk SNW.out y1, KeepT.cellT hk SNW.out y2⟩)
  have kt := KeepT.refl' 5 w1
  have EO := Lib.hid (OutB.empty B1g.out)
  have HLG : Hid (p.globals.length ≤ 8) := Lib.hid (by omega)
  have HLK : Hid (p.locks.length ≤ 8) := Lib.hid (by omega)
  have HB1 : Hid (([] ++ listL (⟨#[103, 108, 111, 98, 97, 108, 115]⟩ : ByteArray).data.toList p.globals).length ≤ 1000000) := Lib.hid (by simp only [listL, List.length_append, List.length_cons, List.length_nil]; omega)
  have HZ1 : Hid ((⟨#[103, 108, 111, 98, 97, 108, 115]⟩ : ByteArray).size ≤ 10) := Lib.hid (by decide)
  have HZ2 : Hid ((⟨#[108, 111, 99, 107, 115]⟩ : ByteArray).size ≤ 10) := Lib.hid (by decide)
  have HG3 := Lib.hid HP.out.g3
  have HK3 := Lib.hid HP.out.l3
  go_region_held3 (fun w' => KeepT 5 w1 w' ∧ w'.cell? ⟨g, 0, none⟩ = some (.slice gA p.globals.length gc) ∧ w'.cell? ⟨g, 1, none⟩ = some (.slice lA p.locks.length lc) ∧ w'.cell? ⟨g, 2, none⟩ = some (.slice pA p.procs.length pc))
    (first | exact ⟨KeepT.trans' kt (KeepT.of_below' (by repeat' (first | exact Below.refl _ _ | exact Nat.le_refl _ | (refine Below.alloc ?_ ?_ _) | (refine Below.setCell ?_ ?_ _) | (refine Below.drew ?_) | (refine below_drewN ?_ _) | assumption | (simp; done) | (simp; omega)))), KS.out _ (KeepT.trans' kt (KeepT.of_below' (by repeat' (first | exact Below.refl _ _ | exact Nat.le_refl _ | (refine Below.alloc ?_ ?_ _) | (refine Below.setCell ?_ ?_ _) | (refine Below.drew ?_) | (refine below_drewN ?_ _) | assumption | (simp; done) | (simp; omega)))))⟩ | fail)
    (first
      | (go_at_call 109; have t1 := spec_l05List ⟨#[108, 111, 99, 107, 115]⟩ p.locks lA lc w _ _ _ HK3.out HLK.out HK2.out HZ2.out oX HB1.out; refine t1.mono ?_; clear t1; rintro e wZ ⟨vY, rfl, oY, kY⟩; have kt := KeepT.trans' (KeepT.trans' kt (KeepT.of_below' (by repeat' (first | exact Below.refl _ _ | exact Nat.le_refl _ | (refine Below.alloc ?_ ?_ _) | (refine Below.setCell ?_ ?_ _) | (refine Below.drew ?_) | (refine below_drewN ?_ _) | assumption | (simp; done) | (simp; omega))))) (Grew.keepB kY oX); have oX := oY; clear oY kY)
      | (go_at_call 109; have t1 := spec_l05List ⟨#[108, 111, 99, 107, 115]⟩ p.locks lA lc w _ _ _ HK3.out HLK.out HK2.out HZ2.out oX.drew HB1.out; refine t1.mono ?_; clear t1; rintro e wZ ⟨vY, rfl, oY, kY⟩; have kt := KeepT.trans' (KeepT.trans' kt (KeepT.of_below' (by repeat' (first | exact Below.refl _ _ | exact Nat.le_refl _ | (refine Below.alloc ?_ ?_ _) | (refine Below.setCell ?_ ?_ _) | (refine Below.drew ?_) | (refine below_drewN ?_ _) | assumption | (simp; done) | (simp; omega))))) (Grew.keepB kY oX.drew); have oX := oY; clear oY kY)
      | (go_at_call 109; have t1 := spec_l05List ⟨#[103, 108, 111, 98, 97, 108, 115]⟩ p.globals gA gc w _ _ [] HG3.out HLG.out HG2.out HZ1.out EO.out.drew (by simp); refine t1.mono ?_; clear t1; rintro e wY ⟨vY, rfl, oY, kY⟩; have kt := KeepT.trans' (KeepT.trans' kt (KeepT.of_below' (by repeat' (first | exact Below.refl _ _ | exact Nat.le_refl _ | (refine Below.alloc ?_ ?_ _) | (refine Below.setCell ?_ ?_ _) | (refine Below.drew ?_) | (refine below_drewN ?_ _) | assumption | (simp; done) | (simp; omega))))) (Grew.keepB kY EO.out.drew); have oX := oY; clear oY kY)
      | (go_at_call 109; have t1 := spec_l05List ⟨#[103, 108, 111, 98, 97, 108, 115]⟩ p.globals gA gc w _ _ [] HG3.out HLG.out HG2.out HZ1.out EO.out (by simp); refine t1.mono ?_; clear t1; rintro e wY ⟨vY, rfl, oY, kY⟩; have kt := KeepT.trans' (KeepT.trans' kt (KeepT.of_below' (by repeat' (first | exact Below.refl _ _ | exact Nat.le_refl _ | (refine Below.alloc ?_ ?_ _) | (refine Below.setCell ?_ ?_ _) | (refine Below.drew ?_) | (refine below_drewN ?_ _) | assumption | (simp; done) | (simp; omega))))) (Grew.keepB kY EO.out); have oX := oY; clear oY kY)
      | fail)
  all_goals
    obtain ⟨L1, hL1⟩ : ∃ L, [] ++ listL (⟨#[103, 108, 111, 98, 97, 108, 115]⟩ : ByteArray).data.toList p.globals ++ listL (⟨#[108, 111, 99, 107, 115]⟩ : ByteArray).data.toList p.locks = L := ⟨_, rfl⟩
    have hl1 : L1.length ≤ 300 := by rw [← hL1]; simp only [listL, List.length_append, List.length_cons, List.length_nil]; omega
    have HL1 : Hid (L1 = listL wGlob p.globals ++ listL wLock p.locks) := Lib.hid (by rw [← hL1]; rfl)
    rw [hL1] at oX
    have O1 := Lib.hid oX
    have K1 := Lib.hid kt
    clear oX kt hL1 KS
    obtain ⟨A1, c1, rfl, _⟩ := O1.out.slice
    go_wp2_with fail
    go_loopw [3, 4] (fun ov iv wr => ∃ j : Nat, j ≤ p.procs.length ∧ iv = .int .i64 (j : Int) ∧ ∃ A' n c', ov = .slice A' n c' ∧ Hid (n = (L1 ++ procsL (p.procs.take j)).length ∧ OutB w wr (.slice A' n c') (L1 ++ procsL (p.procs.take j)) ∧ KeepT 5 w1 wr)) (fun _ iv _ => p.procs.length - (intOf iv).toNat)
    case atStart => exact ⟨0, Nat.zero_le _, rfl, A1, _, c1, rfl, Lib.hid ⟨by simp [procsL], by simpa [procsL] using O1.out, K1.out⟩⟩
    case round =>
      obtain ⟨j, hj, rfl, A', n, c', rfl, HR⟩ := hrel
      obtain ⟨hn, own, kw⟩ := HR.out
      have O2 := Lib.hid own
      have K2 := Lib.hid kw
      clear own kw HR
      have hnl : (procsL (p.procs.take j)).length ≤ 181000 * j := by
        have h := procsL_len (l := p.procs.take j) (fun q hq => HPR.out q (List.mem_of_mem_take hq))
        rw [List.length_take, Nat.min_eq_left hj] at h
        exact h
      obtain ⟨L2, hL2⟩ : ∃ L, L1 ++ procsL (p.procs.take j) = L := ⟨_, rfl⟩
      have hl2 : L2.length ≤ 2000000 := by rw [← hL2, List.length_append]; omega
      have HL2 := Lib.hid hL2
      rw [hL2] at O2 hn
      clear hL2 hnl
      subst hn
      have z2 := KeepT.cellT K2.out SNW.out y2
      by_cases hlt : j < p.procs.length
      case neg =>
        have HP2 : Hid (pgL p = L2) := Lib.hid (by rw [← HL2.out, HL1.out, List.take_of_length_le (by omega)]; rfl)
        by_cases hbig : 6000 < L2.length
        · have F := Lib.hid (pgR_no2 (p := p) (by rw [HP2.out]; exact hbig))
          have hbi : (6000 : Int) < (L2.length : Int) := by omega
          go_wp2_with fail
          go_ret
          exact ⟨by rw [F.out]; rfl, O2.out.own⟩
        · have F := Lib.hid (pgR_yes HOK.out (by rw [HP2.out]; omega))
          have hbi : ¬ (6000 : Int) < (L2.length : Int) := by omega
          have cv := str_run (w := wr) c' (Own.rd O2.out)
          go_wp2_with fail
          go_ret
          exact ⟨by rw [F.out, HP2.out]; rfl, O2.out.own⟩
      obtain ⟨nb, noff, ⟨qs, qA, qm, qc⟩, rfl, e0, e1, hq⟩ := rd_proc HP.out.p3 hlt
      obtain ⟨hq1, hq2, hq3, hq4, hq5, hq6⟩ := hq
      simp only at e0 e1 hq1 hq2 hq3 hq4 hq5 hq6
      subst hq2
      obtain ⟨hs1, hr1, hn1⟩ := okPr_parts (HPR.out _ (List.getElem_mem hlt))
      have htl := txtGs_len hr1 (ah := 1) (by omega)
      have HR1 := Lib.hid hr1
      have HQ6 := Lib.hid hq6
      rw [hq1] at hs1
      have HTK := Lib.hid (procsL_take p.procs j hlt)
      have HPL : Hid (procL p.procs[j] = [112, 114, 111, 99, 32] ++ qs.data.toList ++ [32, 123, 10] ++ txtGs 1 p.procs[j].body ++ [125, 10]) := Lib.hid (by rw [procL, hq1])
      have h0k : (0 : Int) ≤ (j : Int) := by omega
      have d0 := cell_keep O2.out.own e0
      have hc1 : ¬ (9223372036854775807 < 5 + qs.size) := by omega
      have hc2 : ¬ (9223372036854775807 < 5 + qs.size + 3) := by omega
      have hsz : ((⟨#[112, 114, 111, 99, 32]⟩ : ByteArray) ++ qs ++ ⟨#[32, 123, 10]⟩).size ≤ 20 := by rw [← size_list]; simp; omega
      have HSZ := Lib.hid hsz
      clear hr1 hq6 hq1 hsz
      generalize p.procs[j].body = body at *
      go_upto_region 8 with (at_builtin; refine wpList_outB_str rfl _ _ rfl rfl O2.out ((⟨#[112, 114, 111, 99, 32]⟩ : ByteArray) ++ qs ++ ⟨#[32, 123, 10]⟩) rfl (Nat.le_trans (Nat.add_le_add_left HSZ.out _) (by omega)) ?_; intro v3 w3 own3 kp3; obtain ⟨L3, hL3⟩ : ∃ L, L2 ++ ((⟨#[112, 114, 111, 99, 32]⟩ : ByteArray) ++ qs ++ ⟨#[32, 123, 10]⟩).data.toList = L := ⟨_, rfl⟩; have O3 : Hid (OutB w w3 v3 L3) := Lib.hid (by rw [← hL3]; exact own3); have HL3 := Lib.hid hL3; have K3 := Lib.hid (KeepT.trans' K2.out (Grew.keepB kp3 O2.out)); clear own3 kp3 hL3; obtain ⟨A3, c3, rfl, _⟩ := O3.out.slice)
      have hl3 : L3.length ≤ 2000020 := by rw [← HL3.out, List.length_append, size_list]; exact Nat.le_trans (Nat.add_le_add_left HSZ.out _) (by omega)
      clear d0 z2
      have z2 := KeepT.cellT K3.out SNW.out y2
      have d1 := cell_keep O3.out.own e1
      go_wp2_with fail
      have hcl := spec_l04Say body 6 1 qA qc w _ _ L3 HQ6.out hq4 hq5 HR1.out (by omega) O3.out (by omega)
      rw [show ((1 : Nat) : Int) = 1 from rfl] at hcl
      refine hcl.mono ?_
      clear hcl
      rintro e w4 ⟨v4, rfl, o4, k4⟩
      have O4 := Lib.hid o4
      have K4 := Lib.hid (KeepT.trans' K3.out (Grew.keepB k4 O3.out))
      obtain ⟨L4, hL4⟩ : ∃ L, L3 ++ txtGs 1 body = L := ⟨_, rfl⟩
      have hl4 : L4.length ≤ 3000000 := by rw [← hL4, List.length_append]; omega
      have HL4 := Lib.hid hL4
      rw [hL4] at O4
      clear hL4 o4 k4
      obtain ⟨A4, c4, rfl, _⟩ := O4.out.slice
      go_wp2_with (at_builtin; refine wpList_outB_some rfl _ _ rfl rfl (O4.out.alloc _) _ 2 2 [125, 10] rfl (Rd.new _ 1 2 _ _ rfl) (by omega) ?_; intro v5 w5 own5 kp5)
      have O5 : Hid (OutB w w5 v5 (L1 ++ procsL (p.procs.take (j + 1)))) := Lib.hid (by
        have e : L1 ++ procsL (p.procs.take (j + 1)) = L4 ++ [125, 10] := by rw [HTK.out, HPL.out, ← HL4.out, ← HL3.out, ← HL2.out]; simp
        rw [e]
        exact own5)
      have K5 := Lib.hid (KeepT.trans' (KeepT.trans' K4.out (KeepT.of_below' (Below.alloc (Below.refl _ _) (Nat.le_refl _) _))) (Grew.keepB kp5 (O4.out.alloc _)))
      clear own5 kp5
      obtain ⟨A5, c5, rfl, _⟩ := O5.out.slice
      go_roundw
      case rel => exact ⟨j + 1, by omega, by go_num, A5, _, c5, rfl, Lib.hid ⟨rfl, O5.out, K5.out⟩⟩
      case measure => simp [intOf]; omega

set_option maxHeartbeats 1600000 in
theorem impl_nameLine (word : ByteArray) (l : List ByteArray) (A : Option Addr) (c : Nat) (w : World) (rd : Rd w 1 A l.length (l.map Value.string)) (hl : l.length ≤ c) (hn : l.length ≤ 8) (hs : ∀ s ∈ l, s.size ≤ 12) (hw : word.size ≤ 10) :
    Calls Tryd.prog 113 #[.string word, .slice A l.length c] w fun e w' => e = .returned (.string ⟨(listL word.data.toList l).toArray⟩) ∧ Below w.heap.size w w' := by
  have hnl := namL_len hs
  cases l with
  | nil =>
    have hc1 : ¬ (9223372036854775807 < word.size + 2) := by omega
    have hlen : (([] : List ByteArray).length) = 0 := rfl
    simp only [hlen]
    go_enter Tryd.func113, Tryd.ntmps113
    go_wp2_with fail
    go_ret
    exact ⟨ret_str (by apply str_ext; simp [listL, namL]), (by repeat' (first | exact Below.refl _ _ | exact Nat.le_refl _ | (refine Below.alloc ?_ ?_ _) | (refine Below.setCell ?_ ?_ _) | (refine Below.drew ?_) | (refine below_drewN ?_ _) | assumption | (simp; done) | (simp; omega)))⟩
  | cons s r =>
    obtain ⟨b, o, rfl, hcell⟩ := rd.2 (by simp)
    have hcells : Hid (∀ (j : Nat) x, (s :: r)[j]? = some x → w.cell? ⟨b, o + j, none⟩ = some (.string x)) := Lib.hid fun j x hx => hcell j (.string x) (by rw [List.getElem?_map, hx]; rfl)
    have hb : b < w.heap.size := cell_lt (hcells.out 0 s rfl)
    obtain ⟨J, hJ⟩ : ∃ J, Lib.join ((s :: r).map (·.data.toList)) [44, 32] = J := ⟨_, rfl⟩
    have hjl : J.length + 1 ≤ 14 * (s :: r).length := by
      have h := hnl
      rw [namL_join, hJ] at h
      simp only [List.length_append, List.length_cons, List.length_nil] at h ⊢
      omega
    have HJ := Lib.hid hJ
    have hjb : J.length ≤ 112 := by omega
    have HF : Hid (listL word.data.toList (s :: r) = word.data.toList ++ [32] ++ J ++ [59, 10]) := Lib.hid (by rw [listL, namL_join, hJ]; simp)
    have hc1 : ¬ (9223372036854775807 < word.size + 1) := by omega
    have hc2 : ¬ (9223372036854775807 < word.size + 1 + J.length) := by omega
    have hc3 : ¬ (9223372036854775807 < word.size + 1 + J.length + 2) := by omega
    obtain ⟨n, hnn⟩ : ∃ n, (s :: r).length = n := ⟨_, rfl⟩
    have hn0 : 0 < n := by rw [← hnn]; simp
    have hn0i : ((n : Int) == 0) = false := beq_eq_false_iff_ne.2 (by omega)
    have HN := Lib.hid hnn
    rw [hnn] at hl hn ⊢
    clear hnl hJ hnn rd hcell hjl
    go_enter Tryd.func113, Tryd.ntmps113
    go_wp2_with fail
    have hcl := Tryd.strings_Join b o c (s :: r) ⟨#[44, 32]⟩ w hcells.out hb (by rw [HN.out]; omega) (by rw [HN.out]; exact hl) (by rw [show (⟨#[44, 32]⟩ : ByteArray).data.toList = [44, 32] from rfl, HJ.out]; omega)
    rw [HN.out, show (⟨#[44, 32]⟩ : ByteArray).data.toList = [44, 32] from rfl, HJ.out] at hcl
    refine hcl.mono ?_
    rintro e w1 ⟨rfl, b1⟩
    have B1 := Lib.hid b1
    clear b1 hcl
    go_wp2_with fail
    go_ret
    exact ⟨ret_str (by apply str_ext; rw [HF.out]; simp), B1.out⟩
set_option maxHeartbeats 6400000 in
set_option maxRecDepth 100000 in
theorem impl_ProgText (p : Pg) (x : V3) (w : World) (hp : PgIs w x p) (htot : totPg p ≤ 1048576) (tab : TabW w) :
    Calls Tryd.prog 48 #[x.val p] w fun e w' => e = .returned (.string ⟨(pgR p).toArray⟩) ∧ Below w.heap.size w w' := by
  obtain ⟨gA, gc, lA, lc, pA, pc⟩ := x
  have HP := Lib.hid hp
  have TB := Lib.hid tab
  have hpl := hp.p1
  have hpc := hp.p2
  have hgl := hp.g1
  have hgc := hp.g2
  have hll := hp.l1
  have hlc := hp.l2
  simp only at hpl hpc hgl hgc hll hlc
  unfold maxLen at hpc hgc hlc
  clear hp tab
  unfold V3.val
  simp only
  cases hok : okPg p with
  | false =>
    have F := Lib.hid (pgR_no1 hok)
    go_enter Tryd.func48, Tryd.ntmps48
    go_wp2_with fail
    refine (impl_ProgOk p ⟨gA, gc, lA, lc, pA, pc⟩ _ (HP.out.belowA (by repeat' (first | exact Below.refl _ _ | exact Nat.le_refl _ | (refine Below.alloc ?_ ?_ _) | (refine Below.setCell ?_ ?_ _) | (refine Below.drew ?_) | (refine below_drewN ?_ _) | assumption | (simp; done) | (simp; omega)))) htot).mono ?_
    rintro e w1 ⟨rfl, b1⟩
    have B1 : Hid (Below w.heap.size w w1) := Lib.hid (Below.trans (by repeat' (first | exact Below.refl _ _ | exact Nat.le_refl _ | (refine Below.alloc ?_ ?_ _) | (refine Below.setCell ?_ ?_ _) | (refine Below.drew ?_) | (refine below_drewN ?_ _) | assumption | (simp; done) | (simp; omega))) (b1.mono (by simp)))
    rw [hok]
    clear b1
    go_wp2_with fail
    go_ret
    exact ⟨by rw [F.out]; rfl, B1.out⟩
  | true =>
  obtain ⟨hg, hlk, hpn, hpr⟩ := okPg_parts hok
  obtain ⟨hg1, hg2⟩ := names_parts hg
  obtain ⟨hk1, hk2⟩ := names_parts hlk
  have HG2 := Lib.hid hg2
  have HK2 := Lib.hid hk2
  have HPR := Lib.hid hpr
  have HOK := Lib.hid hok
  have hgn := namL_len hg2
  have hkn := namL_len hk2
  clear hg hlk hg2 hk2 hpr
  go_enter Tryd.func48, Tryd.ntmps48
  go_wp2_with fail
  refine (impl_ProgOk p ⟨gA, gc, lA, lc, pA, pc⟩ _ (HP.out.belowA (by repeat' (first | exact Below.refl _ _ | exact Nat.le_refl _ | (refine Below.alloc ?_ ?_ _) | (refine Below.setCell ?_ ?_ _) | (refine Below.drew ?_) | (refine below_drewN ?_ _) | assumption | (simp; done) | (simp; omega)))) htot).mono ?_
  rintro e w1 ⟨rfl, b1⟩
  have B1 : Hid (Below w.heap.size w w1) := Lib.hid (Below.trans (by repeat' (first | exact Below.refl _ _ | exact Nat.le_refl _ | (refine Below.alloc ?_ ?_ _) | (refine Below.setCell ?_ ?_ _) | (refine Below.drew ?_) | (refine below_drewN ?_ _) | assumption | (simp; done) | (simp; omega))) (b1.mono (by simp)))
  have BX : BoxB w1 w.heap.size [.slice gA p.globals.length gc, .slice lA p.locks.length lc, .slice pA p.procs.length pc] := BoxB.below (BoxB.lit rfl) b1
  have y0 := BX 0 _ rfl
  have y1 := BX 1 _ rfl
  have y2 := BX 2 _ rfl
  have hz := cell_lt y0
  simp only at hz
  have P1 := Lib.hid (HP.out.belowA B1.out)
  have T1 := Lib.hid (TB.out.below B1.out)
  rw [hok]
  clear b1 BX hok
  generalize hgw : w.heap.size = g at *
  have HGW := Lib.hid hgw
  clear hgw
  have BN := Lib.hid (BldB.new w1)
  go_wp2_with fail
  refine (impl_nameLine ⟨#[103, 108, 111, 98, 97, 108, 115]⟩ p.globals gA gc _ (P1.out.g3.below (by repeat' (first | exact Below.refl _ _ | exact Nat.le_refl _ | (refine Below.alloc ?_ ?_ _) | (refine Below.setCell ?_ ?_ _) | (refine Below.drew ?_) | (refine below_drewN ?_ _) | assumption | (simp; done) | (simp; omega)))) hgl (by omega) HG2.out (by decide)).mono ?_
  rintro e w2 ⟨rfl, b2⟩
  have B2 := Lib.hid (BN.out.below b2)
  clear b2 BN
  obtain ⟨S1, hS1⟩ : ∃ S, listL (⟨#[103, 108, 111, 98, 97, 108, 115]⟩ : ByteArray).data.toList p.globals = S := ⟨_, rfl⟩
  have hs1 : S1.length ≤ 100 := by rw [← hS1]; simp only [listL, List.length_append, List.length_cons, List.length_nil]; omega
  have HS1 := Lib.hid hS1
  rw [hS1]
  clear hS1
  go_wp2_with fail
  refine (bld_write w1.heap.size w1 _ [] ⟨S1.toArray⟩ B2.out (by simp only [ByteArray.size, List.size_toArray, List.length_nil]; omega)).mono ?_
  rintro e w3 ⟨rfl, b3, _⟩
  have B3 : Hid (BldB w1 w3 w1.heap.size S1) := Lib.hid b3
  clear b3 B2
  have z1 := cell_keep B3.out.own y1
  go_wp2_with fail
  refine (impl_nameLine ⟨#[108, 111, 99, 107, 115]⟩ p.locks lA lc _ (P1.out.l3.below B3.out.own) hll (by omega) HK2.out (by decide)).mono ?_
  rintro e w4 ⟨rfl, b4⟩
  have B4 := Lib.hid (B3.out.below b4)
  clear b4 B3 z1
  obtain ⟨S2, hS2⟩ : ∃ S, listL (⟨#[108, 111, 99, 107, 115]⟩ : ByteArray).data.toList p.locks = S := ⟨_, rfl⟩
  have hs2 : S2.length ≤ 100 := by rw [← hS2]; simp only [listL, List.length_append, List.length_cons, List.length_nil]; omega
  have HS2 := Lib.hid hS2
  rw [hS2]
  clear hS2
  go_wp2_with fail
  refine (bld_write w1.heap.size w1 _ S1 ⟨S2.toArray⟩ B4.out (by simp only [ByteArray.size, List.size_toArray]; omega)).mono ?_
  rintro e w5 ⟨rfl, b5, _⟩
  obtain ⟨L1, hL1⟩ : ∃ L, S1 ++ S2 = L := ⟨_, rfl⟩
  have B5 : Hid (BldB w1 w5 w1.heap.size L1) := Lib.hid (by rw [← hL1]; exact b5)
  have hl1 : L1.length ≤ 300 := by rw [← hL1, List.length_append]; omega
  have HL1 : Hid (L1 = listL wGlob p.globals ++ listL wLock p.locks) := Lib.hid (by rw [← hL1, ← HS1.out, ← HS2.out]; rfl)
  clear b5 B4 hL1
  have z2 := cell_keep B5.out.own y2
  go_wp2_with fail
  clear z2
  go_loopw [20] (fun iv wr => ∃ j : Nat, j ≤ p.procs.length ∧ iv = .int .i64 (j : Int) ∧ Hid (BldB w1 wr w1.heap.size (L1 ++ procsL (p.procs.take j)))) (fun iv _ => p.procs.length - (intOf iv).toNat)
  case atStart => exact ⟨0, Nat.zero_le _, rfl, Lib.hid (by simpa [procsL] using B5.out)⟩
  case round =>
    obtain ⟨j, hj, rfl, B6⟩ := hrel
    have hnl : (procsL (p.procs.take j)).length ≤ 181000 * j := by
      have h := procsL_len (l := p.procs.take j) (fun q hq => HPR.out q (List.mem_of_mem_take hq))
      rw [List.length_take, Nat.min_eq_left hj] at h
      exact h
    obtain ⟨L2, hL2⟩ : ∃ L, L1 ++ procsL (p.procs.take j) = L := ⟨_, rfl⟩
    have hl2 : L2.length ≤ 2000000 := by rw [← hL2, List.length_append]; omega
    have HL2 := Lib.hid hL2
    rw [hL2] at B6
    clear hL2 hnl
    by_cases hlt : j < p.procs.length
    case neg =>
      have HP2 : Hid (pgL p = L2) := Lib.hid (by rw [← HL2.out, HL1.out, List.take_of_length_le (by omega)]; rfl)
      have hlen := Tryd.Builder_Len w1.heap.size w1.heap.size (bv L2) wr B6.out.is
      rw [bv_length] at hlen
      have HLN := Lib.hid hlen
      clear hlen
      by_cases hbig : 6000 < L2.length
      · have F := Lib.hid (pgR_no2 (p := p) (by rw [HP2.out]; exact hbig))
        have hbi : (6000 : Int) < (L2.length : Int) := by omega
        go_wp2_with fail
        refine HLN.out.mono ?_
        rintro e w7 ⟨rfl, rfl⟩
        go_wp2_with fail
        go_ret
        exact ⟨by rw [F.out]; rfl, below_then (show Below w.heap.size w w1 by rw [HGW.out]; exact B1.out) B6.out.own⟩
      · have F := Lib.hid (pgR_yes HOK.out (by rw [HP2.out]; omega))
        have hbi : ¬ (6000 : Int) < (L2.length : Int) := by omega
        go_wp2_with fail
        refine HLN.out.mono ?_
        rintro e w7 ⟨rfl, rfl⟩
        have hsz := B6.out.own.size
        go_wp2_with fail
        refine (Tryd.Builder_String_any w1.heap.size w1.heap.size L2 _ B6.out.is hsz).mono ?_
        rintro e w8 ⟨rfl, b8⟩
        have B8 := Lib.hid (B6.out.own.trans b8)
        clear b8
        go_wp2_with fail
        go_ret
        exact ⟨by rw [F.out, HP2.out]; rfl, below_then (show Below w.heap.size w w1 by rw [HGW.out]; exact B1.out) B8.out⟩
    obtain ⟨nb, noff, ⟨qs, qA, qm, qc⟩, rfl, e0, e1, hq⟩ := rd_proc (P1.out.belowA B6.out.own).p3 hlt
    obtain ⟨hq1, hq2, hq3, hq4, hq5, _⟩ := hq
    simp only at e0 e1 hq1 hq2 hq3 hq4 hq5
    subst hq2
    obtain ⟨nb', noff', ⟨qs', qA', qm', qc'⟩, ea, e0', e1', hq'⟩ := rd_proc P1.out.p3 hlt
    injection ea with ea
    injection ea with ea1 ea2
    subst ea1 ea2
    have f1 := (cell_keep B6.out.own e1').symm.trans e1
    simp only [Option.some.injEq, Value.slice.injEq] at f1
    obtain ⟨f1, f2, f3⟩ := f1
    have hq6 : StRow AnyB w1 qA p.procs[j].body := by rw [← f1]; exact hq'.2.2.2.2.2
    clear e0' e1' hq' f1 f2 f3
    obtain ⟨hs1, hr1, hn1⟩ := okPr_parts (HPR.out _ (List.getElem_mem hlt))
    have htl := txtGs_len hr1 (ah := 1) (by omega)
    have HR1 := Lib.hid hr1
    have HQ6 := Lib.hid hq6
    rw [hq1] at hs1
    have HTK := Lib.hid (procsL_take p.procs j hlt)
    have HPL : Hid (procL p.procs[j] = [112, 114, 111, 99, 32] ++ qs.data.toList ++ [32, 123, 10] ++ txtGs 1 p.procs[j].body ++ [125, 10]) := Lib.hid (by rw [procL, hq1])
    have h0k : (0 : Int) ≤ (j : Int) := by omega
    have hc1 : ¬ (9223372036854775807 < 5 + qs.size) := by omega
    have hc2 : ¬ (9223372036854775807 < 5 + qs.size + 3) := by omega
    have HSZ : Hid (((⟨#[112, 114, 111, 99, 32]⟩ : ByteArray) ++ qs ++ ⟨#[32, 123, 10]⟩).size ≤ 20) := Lib.hid (by rw [← size_list]; simp; omega)
    clear hr1 hq6 hq1
    generalize p.procs[j].body = body at *
    go_wp2_with fail
    have le : L2.length + ((⟨#[112, 114, 111, 99, 32]⟩ : ByteArray) ++ qs ++ ⟨#[32, 123, 10]⟩).size ≤ 100000000000 := Nat.le_trans (Nat.add_le_add_left HSZ.out _) (by omega)
    have t1 := bld_write w1.heap.size w1 _ L2 ((⟨#[112, 114, 111, 99, 32]⟩ : ByteArray) ++ qs ++ ⟨#[32, 123, 10]⟩) (B6.out.below (Below.alloc (Below.refl _ _) (Nat.le_refl _) (.cells #[.string qs, .slice qA body.length qc] 145))) le
    refine t1.mono ?_
    clear le t1
    rintro e w7 ⟨rfl, b7, k7⟩
    have hgb : wr.heap.size ≠ w1.heap.size := by have := B6.out.lt; omega
    have u1 : w7.cell? ⟨wr.heap.size, 1, none⟩ = some (.slice qA body.length qc) := KeepW.cellW k7 hgb (sane_new (by decide)) (BoxB.lit (cs := #[.string qs, .slice qA body.length qc]) rfl 1 _ rfl)
    obtain ⟨L3, hL3⟩ : ∃ L, L2 ++ ((⟨#[112, 114, 111, 99, 32]⟩ : ByteArray) ++ qs ++ ⟨#[32, 123, 10]⟩).data.toList = L := ⟨_, rfl⟩
    have hl3 : L3.length ≤ 2000020 := by rw [← hL3, List.length_append, size_list]; exact Nat.le_trans (Nat.add_le_add_left HSZ.out _) (by omega)
    have HL3 := Lib.hid hL3
    rw [hL3] at b7
    have B7 := Lib.hid b7
    clear hL3 b7 k7
    go_wp2_with fail
    have hcl := impl_writeStmts body 6 1 qA qc w1 _ w1.heap.size L3 HQ6.out hq4 hq5 HR1.out (by omega) B7.out (by omega) T1.out
    rw [show ((1 : Nat) : Int) = 1 from rfl] at hcl
    refine hcl.mono ?_
    clear hcl
    rintro e w8 ⟨rfl, b8, _⟩
    obtain ⟨L4, hL4⟩ : ∃ L, L3 ++ txtGs 1 body = L := ⟨_, rfl⟩
    have hl4 : L4.length ≤ 3000000 := by rw [← hL4, List.length_append]; omega
    have HL4 := Lib.hid hL4
    rw [hL4] at b8
    have B8 := Lib.hid b8
    clear hL4 b8 u1
    go_wp2_with fail
    refine (bld_write w1.heap.size w1 _ L4 ⟨#[125, 10]⟩ B8.out (by simp only [ByteArray.size, List.size_toArray, List.length_cons, List.length_nil]; omega)).mono ?_
    rintro e w9 ⟨rfl, b9, _⟩
    have B9 : Hid (BldB w1 w9 w1.heap.size (L1 ++ procsL (p.procs.take (j + 1)))) := Lib.hid (by
      have e : L1 ++ procsL (p.procs.take (j + 1)) = L4 ++ [125, 10] := by rw [HTK.out, HPL.out, ← HL4.out, ← HL3.out, ← HL2.out]; simp
      rw [e]
      exact b9)
    clear b9
    go_wp2_with fail
    go_roundw
    case rel => exact ⟨j + 1, by omega, by go_num, Lib.hid B9.out⟩
    case measure => simp [intOf]; omega

set_option maxHeartbeats 1600000 in
theorem law_ProgText (v : Value) (p : Pg) (w : World) (o : IsProg w v p) (tab : TabW w) :
    Calls Tryd.prog 9 #[v] w fun e w' => e = .returned (.bool true) ∧ Below w.heap.size w w' := by
  obtain ⟨x, rfl, hp⟩ := o
  have HP := Lib.hid hp
  have TB := Lib.hid tab
  clear hp tab
  by_cases h1 : (1048576 : Int) - (totPg p : Int) < 0
  · have C1 := Lib.hid (cut0_neg h1)
    unfold V3.val
    go_enter Tryd.func9, Tryd.ntmps9
    go_wp2_with fail
    refine (laws_szProg p x _ 1048576 (HP.out.belowA (by repeat' (first | exact Below.refl _ _ | exact Nat.le_refl _ | (refine Below.alloc ?_ ?_ _) | (refine Below.setCell ?_ ?_ _) | (refine Below.drew ?_) | (refine below_drewN ?_ _) | assumption | (simp; done) | (simp; omega)))) (by omega) (by omega)).mono ?_
    rintro e w1 ⟨rfl, b1⟩
    have B1 : Hid (Below w.heap.size w w1) := Lib.hid (Below.trans (by repeat' (first | exact Below.refl _ _ | exact Nat.le_refl _ | (refine Below.alloc ?_ ?_ _) | (refine Below.setCell ?_ ?_ _) | (refine Below.drew ?_) | (refine below_drewN ?_ _) | assumption | (simp; done) | (simp; omega))) (b1.mono (by simp)))
    rw [C1.out]
    clear b1
    go_wp2_with fail
    go_ret
    exact ⟨rfl, B1.out⟩
  have C1 := Lib.hid (cut0_pos (n := (1048576 : Int) - (totPg p : Int)) (by omega))
  have htot : totPg p ≤ 1048576 := by omega
  have h1' : 0 ≤ (1048576 : Int) - (totPg p : Int) := by omega
  unfold V3.val
  go_enter Tryd.func9, Tryd.ntmps9
  go_wp2_with fail
  refine (laws_szProg p x _ 1048576 (HP.out.belowA (by repeat' (first | exact Below.refl _ _ | exact Nat.le_refl _ | (refine Below.alloc ?_ ?_ _) | (refine Below.setCell ?_ ?_ _) | (refine Below.drew ?_) | (refine below_drewN ?_ _) | assumption | (simp; done) | (simp; omega)))) (by omega) (by omega)).mono ?_
  rintro e w1 ⟨rfl, b1⟩
  have H1 : Hid (Below w.heap.size w w1) := Lib.hid (Below.trans (by repeat' (first | exact Below.refl _ _ | exact Nat.le_refl _ | (refine Below.alloc ?_ ?_ _) | (refine Below.setCell ?_ ?_ _) | (refine Below.drew ?_) | (refine below_drewN ?_ _) | assumption | (simp; done) | (simp; omega))) (b1.mono (by simp)))
  have BX1 : Hid (BoxB w1 w.heap.size [.slice x.gA p.globals.length x.gc, .slice x.lA p.locks.length x.lc, .slice x.pA p.procs.length x.pc]) := Lib.hid (BoxB.below (BoxB.lit rfl) b1)
  rw [C1.out]
  clear b1
  have p0 := BX1.out 0 _ rfl
  have p1 := BX1.out 1 _ rfl
  have p2 := BX1.out 2 _ rfl
  go_wp2_with fail
  refine (laws_toProg p x _ (HP.out.belowA H1.out) htot).mono ?_
  rintro e w2 ⟨x2, rfl, o2, b2⟩
  have T2 := Lib.hid o2.any
  have H2 := Lib.hid (below_then H1.out b2)
  have BX2 := Lib.hid (BX1.out.below b2)
  clear b2 o2 p0 p1 p2 BX1 H1
  go_wp2_with fail
  refine (spec_ProgText p x2 _ T2.out htot).mono ?_
  rintro e w3 ⟨rfl, b3⟩
  have H3 := Lib.hid (below_then H2.out b3)
  have BX3 := Lib.hid (BX2.out.below b3)
  clear b3 BX2 H2 T2
  have p0 := BX3.out 0 _ rfl
  have p1 := BX3.out 1 _ rfl
  have p2 := BX3.out 2 _ rfl
  go_wp2_with fail
  refine (laws_toProg p x _ (HP.out.belowA H3.out) htot).mono ?_
  rintro e w4 ⟨x4, rfl, o4, b4⟩
  have T4 := Lib.hid o4.any
  have H4 := Lib.hid (below_then H3.out b4)
  have BX4 := Lib.hid (BX3.out.below b4)
  clear b4 o4 p0 p1 p2 BX3 H3
  unfold V3.val
  go_wp2_with fail
  refine (impl_ProgText p x4 _ (T4.out.belowA (by repeat' (first | exact Below.refl _ _ | exact Nat.le_refl _ | (refine Below.alloc ?_ ?_ _) | (refine Below.setCell ?_ ?_ _) | (refine Below.drew ?_) | (refine below_drewN ?_ _) | assumption | (simp; done) | (simp; omega)))) htot (TB.out.below (below_then H4.out (by repeat' (first | exact Below.refl _ _ | exact Nat.le_refl _ | (refine Below.alloc ?_ ?_ _) | (refine Below.setCell ?_ ?_ _) | (refine Below.drew ?_) | (refine below_drewN ?_ _) | assumption | (simp; done) | (simp; omega)))))).mono ?_
  rintro e w5 ⟨rfl, b5⟩
  have B5 : Below w4.heap.size w4 w5 := Below.trans (Below.alloc (Below.refl _ _) (Nat.le_refl _) _) (b5.mono (by simp))
  have BY5 : Hid (BoxB w5 w4.heap.size [.slice x4.gA p.globals.length x4.gc, .slice x4.lA p.locks.length x4.lc, .slice x4.pA p.procs.length x4.pc]) := Lib.hid (BoxB.below (BoxB.lit rfl) b5)
  have BX5 := Lib.hid (BX4.out.below B5)
  have T5 := Lib.hid (T4.out.belowA B5)
  have H5 := Lib.hid (below_then H4.out B5)
  have P5 := Lib.hid (HP.out.belowA H5.out)
  have hne : ((⟨(pgR p).toArray⟩ : ByteArray).toList != (⟨(pgR p).toArray⟩ : ByteArray).toList) = false := by simp
  generalize (⟨(pgR p).toArray⟩ : ByteArray) = LN at *
  have st : decB (p = p) = true := decB_yes rfl
  clear b5 B5 BX4 H4 T4
  have p0 := BX5.out 0 _ rfl
  have p1 := BX5.out 1 _ rfl
  have p2 := BX5.out 2 _ rfl
  have r0 := BY5.out 0 _ rfl
  have r1 := BY5.out 1 _ rfl
  have r2 := BY5.out 2 _ rfl
  go_wp2_with fail
  go_region_held3 (fun w' => w'.cell? ⟨w.heap.size, 0, none⟩ = some (.slice x.gA p.globals.length x.gc) ∧ w'.cell? ⟨w.heap.size, 1, none⟩ = some (.slice x.lA p.locks.length x.lc) ∧ w'.cell? ⟨w.heap.size, 2, none⟩ = some (.slice x.pA p.procs.length x.pc) ∧ w'.cell? ⟨w4.heap.size, 0, none⟩ = some (.slice x4.gA p.globals.length x4.gc) ∧ w'.cell? ⟨w4.heap.size, 1, none⟩ = some (.slice x4.lA p.locks.length x4.lc) ∧ w'.cell? ⟨w4.heap.size, 2, none⟩ = some (.slice x4.pA p.procs.length x4.pc))
    (first | go_keep | (go_split_ands; refine ⟨?_, ?_, ?_, ?_, ?_, ?_⟩ <;> first | exact cell_keep b10 (by assumption) | exact cell_keep b9 (by assumption)))
    (first
      | (go_at_call 47; (refine (laws_toProg p x _ (by exact P5.out.drew) htot).mono ?_); rintro e w9 ⟨x9, rfl, o9, b9⟩; unfold V3.val)
      | (go_at_call 49; refine (laws_eqProg p p x4 x9 _ (by exact T5.out.drew.belowA b9) (by exact o9.any)).mono ?_; rintro e w10 ⟨rfl, b10⟩))
  have b910 : Below w5.heap.size w5 w10 := below_then (Below.trans (Below.refl _ _).drew b9) b10
  have H10 := Lib.hid (below_then H5.out b910)
  clear b9 b10 b910 o9
  go_wp2_with fail
  go_ret
  exact ⟨rfl, H10.out⟩
end Go.Proofs.YtefcdpkficojgaaDoor
