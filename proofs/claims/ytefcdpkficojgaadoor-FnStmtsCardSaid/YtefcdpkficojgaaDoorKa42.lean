/- Several texts in one: DecFacts, StPl, HasT. -/
import Derived.Test.YtefcdpkficojgaaDoorKa41
import Derived.Test.YtefcdpkficojgaaDoorKa37
import Derived.Test.YtefcdpkficojgaaDoorKa26
import Derived.Test.YtefcdpkficojgaaDoorKa4
import Derived.Deep.QuietTactic
import Derived.BigQuiet
namespace Go.Proofs.YtefcdpkficojgaaDoor
open Go.RowKit
set_option linter.unusedVariables false


theorem dec_dig {x : Nat} (h : x < 10) : (UInt8.ofNat (48 + x)).toNat = 48 + x := by rw [UInt8.toNat_ofNat']; omega
theorem dec_facts (u : Nat) : valL (Lib.decDigits u) = u ∧ (Lib.decDigits u).all isDig = true := by
  induction u using Nat.strongRecOn with
  | ind u ih =>
    rw [Lib.decDigits]
    by_cases h : u < 10
    · rw [dif_pos h]
      have e := dec_dig h
      refine ⟨?_, ?_⟩
      · simp only [valL, List.foldl_cons, List.foldl_nil, e]; omega
      · simp only [List.all_cons, List.all_nil, isDig, e, Bool.and_true]
        rw [decide_eq_true (by omega), decide_eq_true (by omega)]; rfl
    · rw [dif_neg h]
      obtain ⟨h1, h2⟩ := ih (u / 10) (by omega)
      have e := dec_dig (x := u % 10) (by omega)
      refine ⟨?_, ?_⟩
      · rw [valL_snoc, h1, e]; omega
      · rw [List.all_append, h2]
        simp only [List.all_cons, List.all_nil, isDig, e, Bool.and_true, Bool.true_and]
        rw [decide_eq_true (by omega), decide_eq_true (by omega)]; rfl

/-- how many ends of lines -/
def nlL (l : List UInt8) : Nat := (l.filter fun c => decide ((c.toNat : Int) = 10)).length
theorem nlL_nil : nlL [] = 0 := rfl
theorem nlL_append (l r : List UInt8) : nlL (l ++ r) = nlL l + nlL r := by simp [nlL]
theorem nlL_le (l : List UInt8) : nlL l ≤ l.length := by unfold nlL; exact List.length_filter_le _ _
theorem nlL_none {l : List UInt8} (h : ∀ c ∈ l, c.toNat ≠ 10) : nlL l = 0 := by
  unfold nlL
  rw [List.length_eq_zero_iff, List.filter_eq_nil_iff]
  intro c hc
  have := h c hc
  simp only [decide_eq_true_eq]; omega
theorem nlL_take {l : List UInt8} {k : Nat} (h : k < l.length) : nlL (l.take (k + 1)) = nlL (l.take k) + (if (l[k].toNat : Int) = 10 then 1 else 0) := by
  have e : l.take (k + 1) = l.take k ++ [l[k]] := List.take_succ_eq_append_getElem h
  rw [e, nlL_append]
  congr 1
  unfold nlL
  split
  · next h1 => simp [h1]
  · next h1 => simp [h1]
theorem okC_ten {c : UInt8} (h : okC c = true) : c.toNat ≠ 10 := by
  intro e
  unfold okC smallB figB at h
  rw [e] at h
  revert h; decide
theorem name_nl {l : List UInt8} (h : isNameL l = true) : nlL l = 0 := by
  unfold isNameL wordL at h
  simp only [Bool.and_eq_true] at h
  have ha := h.1.2
  rw [List.all_eq_true] at ha
  exact nlL_none fun c hc => okC_ten (ha c hc)
theorem itoa_nl {n : Int} (h0 : 0 ≤ n) : nlL (Lib.itoa n) = 0 := by
  have e : Lib.itoa n = Lib.decDigits n.toNat := by
    unfold Lib.itoa; rw [if_neg (by omega)]
  have ha := (dec_facts n.toNat).2
  rw [← e, List.all_eq_true] at ha
  refine nlL_none fun c hc => ?_
  have := ha c hc
  unfold isDig at this
  rw [Bool.and_eq_true, decide_eq_true_eq, decide_eq_true_eq] at this
  omega
theorem sign_nl (k : Int) : nlL (signK k) = 0 := by
  unfold signK signB
  repeat' split
  all_goals decide
theorem term_nl (r : Nat) : ∀ t, okT r t = true → nlL (txtT t) = 0 := by
  have leaf : ∀ r k n s kids, (k = 1 ∨ k = 2) → okT r (.mk k n s kids) = true → nlL (txtT (.mk k n s kids)) = 0 := by
    intro r k n s kids hk h
    rcases hk with rfl | rfl
    · rw [txtT_num]; exact itoa_nl (okT_num_bd h).1
    · rw [okT_var] at h
      simp only [Bool.and_eq_true] at h
      rw [txtT_var]; exact name_nl h.1.2
  induction r with
  | zero =>
    intro t h
    obtain ⟨k, n, s, kids⟩ := t
    by_cases h12 : k = 1 ∨ k = 2
    · exact leaf 0 k n s kids h12 h
    · rw [okT_zero (beq_eq_false_iff_ne.2 (by omega)) (beq_eq_false_iff_ne.2 (by omega))] at h; cases h
  | succ r ih =>
    intro t h
    obtain ⟨k, n, s, kids⟩ := t
    by_cases h12 : k = 1 ∨ k = 2
    · exact leaf (r + 1) k n s kids h12 h
    obtain ⟨r', he, ⟨rfl, x, rfl, hx⟩ | ⟨hk, x, y, rfl, hx, hy⟩⟩ := okT_kids (by omega) (by omega) h
    · have : r' = r := by omega
      subst this
      rw [txtT_one, nlL_append, nlL_append, ih x hx]; rfl
    · have : r' = r := by omega
      subst this
      rw [txtT_two (by omega) (by omega) (by omega)]
      simp only [nlL_append, ih x hx, ih y hy, sign_nl]; rfl
theorem blanks_nl (n : Nat) : nlL (blanksL n) = 0 := nlL_none fun c hc => by
  rw [blanksL, List.mem_replicate] at hc
  rw [hc.2]; decide
theorem wd_nl (k : Int) : nlL (wdL k) = 0 := by
  unfold wdL wdB
  repeat' split
  all_goals decide
mutual
theorem lines_bd : (g : St) → ∀ {d ah : Nat}, rightG d g = true → snodes g ≤ nlL (txtG ah g) ∧ nlL (txtG ah g) ≤ 3 * snodes g
  | .mk k s t b e, d, ah, hr => by
    have hs := right_shape hr
    have hk := shape_kind hs
    rw [snodes]
    by_cases hm : k = 2 ∨ k = 3
    · obtain ⟨ht, d', rfl, hb, he⟩ := right_many hm hr
      have h1 := liness_bd b (ah := ah + 1) hb
      have h2 := liness_bd e (ah := ah + 1) he
      have l1 : nlL ([32] : List UInt8) = 0 := rfl
      have l2 : nlL ([32, 123, 10] : List UInt8) = 1 := rfl
      have l3 : nlL ([125] : List UInt8) = 0 := rfl
      have l4 : nlL ([10] : List UInt8) = 1 := rfl
      have l5 : nlL ([32, 101, 108, 115, 101] : List UInt8) = 0 := rfl
      have he0 : e.length = 0 → snodess e = 0 := fun h => by rw [List.eq_nil_of_length_eq_zero h, snodess]
      rw [txtG_m hm, elseL]
      split
      · next h =>
        have := he0 h
        simp only [nlL_append, blanks_nl, wd_nl, term_nl 6 t ht, l1, l2, l3, l4, nlL_nil]
        omega
      · simp only [nlL_append, blanks_nl, wd_nl, term_nl 6 t ht, l1, l2, l3, l4, l5]
        omega
    by_cases h1 : k = 1
    · subst h1
      obtain ⟨hn, ht, rfl, rfl⟩ := shape_1 hs
      have l1 : nlL ([32, 61, 32] : List UInt8) = 0 := rfl
      have l2 : nlL ([59] : List UInt8) = 0 := rfl
      have l4 : nlL ([10] : List UInt8) = 1 := rfl
      rw [txtG_1]
      simp only [nlL_append, blanks_nl, name_nl hn, term_nl 6 t ht, l1, l2, l4, snodess]
      omega
    by_cases h8 : k = 8
    · subst h8
      obtain ⟨rfl, rfl⟩ := plain_kids hs rfl
      have l1 : nlL ([115, 107, 105, 112, 59] : List UInt8) = 0 := rfl
      have l4 : nlL ([10] : List UInt8) = 1 := rfl
      rw [txtG_8]
      simp only [nlL_append, blanks_nl, l1, l4, snodess]
      omega
    have hkw : k = 4 ∨ k = 5 ∨ k = 6 ∨ k = 7 := by omega
    obtain ⟨hn, rfl, rfl⟩ := shape_w hkw hs
    have l1 : nlL ([32] : List UInt8) = 0 := rfl
    have l2 : nlL ([59] : List UInt8) = 0 := rfl
    have l4 : nlL ([10] : List UInt8) = 1 := rfl
    rw [txtG_w hkw]
    simp only [nlL_append, blanks_nl, wd_nl, name_nl hn, l1, l2, l4, snodess]
    omega
theorem liness_bd : (l : List St) → ∀ {d ah : Nat}, rightGs d l = true → snodess l ≤ nlL (txtGs ah l) ∧ nlL (txtGs ah l) ≤ 3 * snodess l
  | [], _, _, _ => by rw [txtGs, snodess]; exact ⟨Nat.zero_le _, by rw [nlL_nil]; omega⟩
  | g :: r, d, ah, hr => by
    rw [rightGs, Bool.and_eq_true] at hr
    have h1 := lines_bd g (ah := ah) hr.1
    have h2 := liness_bd r (ah := ah) hr.2
    rw [txtGs, snodess, nlL_append]
    omega
end
/-- the names that are told -/
theorem nameK_all {P : ByteArray → Prop} {kind k : Int} {acc : List ByteArray} {s : ByteArray} (h : k = kind → P s) (ha : ∀ x ∈ acc, P x) : ∀ x ∈ nameK kind k acc s, P x := by
  unfold nameK
  split
  · next hk =>
    intro x hx
    unfold addOnceP at hx
    split at hx
    · exact ha x hx
    · rcases List.mem_append.1 hx with hx | hx
      · exact ha x hx
      · rw [List.mem_singleton] at hx; rw [hx]; exact h hk
  · exact ha
mutual
theorem namesG_all {P : ByteArray → Prop} {kind : Int} (hP : ∀ s t b e, shapeG (.mk kind s t b e) = true → P s) : (g : St) → ∀ {d : Nat} {acc : List ByteArray}, rightG d g = true → (∀ x ∈ acc, P x) → ∀ x ∈ namesG kind acc g, P x
  | .mk k s t b e, d, acc, hr, ha => by
    have hs := right_shape hr
    have h1 : ∀ x ∈ nameK kind k acc s, P x := nameK_all (fun e => by subst e; exact hP _ _ _ _ hs) ha
    rw [namesG_mk]
    cases hm : manyB k with
    | false =>
      obtain ⟨rfl, rfl⟩ := plain_kids hs hm
      rw [namesGs, namesGs]; exact h1
    | true =>
      rw [rightG_many hs hm] at hr
      simp only [Bool.and_eq_true] at hr
      exact namesGs_all hP e hr.2 (namesGs_all hP b hr.1.2 h1)
theorem namesGs_all {P : ByteArray → Prop} {kind : Int} (hP : ∀ s t b e, shapeG (.mk kind s t b e) = true → P s) : (l : List St) → ∀ {d : Nat} {acc : List ByteArray}, rightGs d l = true → (∀ x ∈ acc, P x) → ∀ x ∈ namesGs kind acc l, P x
  | [], _, _, _, ha => by rw [namesGs]; exact ha
  | g :: r, d, acc, hr, ha => by
    rw [rightGs, Bool.and_eq_true] at hr
    rw [namesGs]
    exact namesGs_all hP r hr.2 (namesG_all hP g hr.1 ha)
end
theorem addOnce_nodup {acc : List ByteArray} {s : ByteArray} (h : acc.Nodup) : (addOnceP acc s).Nodup := by
  unfold addOnceP
  split
  · exact h
  · next hn =>
    rw [List.nodup_append]
    refine ⟨h, by simp, fun a ha b hb => ?_⟩
    rw [List.mem_singleton] at hb
    intro e
    subst e
    exact hn (has_iff.2 (by rw [← hb]; exact ha))
theorem nameK_nodup {kind k : Int} {acc : List ByteArray} {s : ByteArray} (h : acc.Nodup) : (nameK kind k acc s).Nodup := by
  unfold nameK
  split
  · exact addOnce_nodup h
  · exact h
mutual
theorem namesG_nodup {kind : Int} : (g : St) → ∀ {acc : List ByteArray}, acc.Nodup → (namesG kind acc g).Nodup
  | .mk k s t b e, acc, ha => by rw [namesG_mk]; exact namesGs_nodup e (namesGs_nodup b (nameK_nodup ha))
theorem namesGs_nodup {kind : Int} : (l : List St) → ∀ {acc : List ByteArray}, acc.Nodup → (namesGs kind acc l).Nodup
  | [], _, ha => by rw [namesGs]; exact ha
  | g :: r, acc, ha => by rw [namesGs]; exact namesGs_nodup r (namesG_nodup g ha)
end
theorem nodup_prefix {ss : List ByteArray} (h : ss.Nodup) {i : Nat} (hi : i < ss.length) : hasS (ss.take i) ss[i] = false := by
  refine hasS_no fun s hs e => ?_
  obtain ⟨j, hj, hje⟩ := List.getElem_of_mem hs
  rw [List.length_take] at hj
  rw [List.getElem_take] at hje
  rw [List.nodup_iff_pairwise_ne, List.pairwise_iff_getElem] at h
  exact h j i (by omega) hi (by omega) (hje.trans e)
theorem same_len {ss : List ByteArray} {x : ByteArray} (h : ss.Nodup) (ha : ∀ s ∈ ss, s = x) : ss.length ≤ 1 := by
  match ss, h, ha with
  | [], _, _ => simp
  | [_], _, _ => simp
  | a :: b :: r, h, ha =>
    rw [List.nodup_cons] at h
    exact absurd (by rw [ha a (by simp), ha b (by simp)]; simp) h.1
theorem drawn_locks (code : List UInt8) : (namesR 6 (drawnS code)).Nodup ∧ ∀ x ∈ namesR 6 (drawnS code), isNameL x.data.toList = true := by
  rw [namesR_yes (drawn_many code)]
  exact ⟨namesGs_nodup _ (List.nodup_nil), namesGs_all (P := fun x => isNameL x.data.toList = true) (fun s t b e h => (shape_w (by omega) h).1) _ (drawn_right code) (fun x hx => by cases hx)⟩
theorem drawn_whiles (code : List UInt8) : (namesR 3 (drawnS code)).length ≤ 1 := by
  rw [namesR_yes (drawn_many code)]
  refine same_len (x := ByteArray.empty) (namesGs_nodup _ (List.nodup_nil)) (namesGs_all (P := fun x => x = ByteArray.empty) (fun s t b e h => ?_) _ (drawn_right code) (fun x hx => by cases hx))
  rw [shapeG, shapeB, if_neg (by decide), if_neg (by decide), if_pos rfl] at h
  simp only [Bool.and_eq_true] at h
  exact empty_of h.1.1

theorem isStrs_take {w : World} {A : Option Addr} {c : Nat} {ss : List ByteArray} (h : IsStrs w (.slice A ss.length c) ss) {k : Nat} (hk : k ≤ ss.length) : IsStrs w (.slice A k c) (ss.take k) := by
  obtain ⟨A', c', e, h2, h3, rd⟩ := h
  injection e with e1 e2 e3
  subst e1 e3
  have hlk : (ss.take k).length = k := by rw [List.length_take]; omega
  refine ⟨A, c, by rw [hlk], by omega, h3, by simp, fun hn => ?_⟩
  obtain ⟨b, off, e, hc⟩ := rd.2 (by omega)
  refine ⟨b, off, e, fun j u hu => hc j u ?_⟩
  rw [List.map_take, List.getElem?_take] at hu
  split at hu
  · exact hu
  · cases hu
set_option maxHeartbeats 400000 in
theorem laws_hasTextS (v : Value) (ss : List ByteArray) (x : ByteArray) (w : World) (h : IsStrs w v ss) : Calls Tryd.prog 26 #[v, .string x] w fun e w' => e = .returned (.bool (hasS ss x)) ∧ w = w' := by
  obtain ⟨A, c, rfl, h2, h3, rd⟩ := h
  unfold maxLen at h3
  have RD := Lib.hid rd
  clear rd
  go_enter Tryd.func26, Tryd.ntmps26
  go_wp2_with fail
  go_loopw [5] (fun i wr => ∃ j : Nat, j ≤ ss.length ∧ i = .int .i64 j ∧ wr = w ∧ Hid (∀ y ∈ ss.take j, y ≠ x)) (fun i _ => ss.length - (intOf i).toNat)
  case atStart => exact ⟨0, Nat.zero_le _, rfl, rfl, Lib.hid (by simp)⟩
  case round =>
    obtain ⟨j, hj, rfl, rfl, HT⟩ := hrel
    by_cases hlt : j < ss.length
    · obtain ⟨b, off, rfl, hcell⟩ := rd_str RD.out hlt
      have h0k : (0 : Int) ≤ (j : Int) := by omega
      have h1k : (j : Int) < (ss.length : Int) := by omega
      have q := str_eq ss[j] x
      by_cases e : ss[j] = x
      · have HA := Lib.hid (hasS_at hlt e)
        rw [decide_eq_true e] at q
        clear e
        go_wp2_with fail
        go_ret
        exact ⟨ret_bool HA.out.symm, rfl⟩
      · have HE := Lib.hid e
        rw [decide_no e] at q
        clear e
        go_wp2_with fail
        go_roundw
        case rel => exact ⟨j + 1, by omega, by go_num, (by first | rfl | trivial), Lib.hid (take_all_succ HT.out hlt HE.out)⟩
        case measure => simp [intOf]; omega
    · have HA := Lib.hid (hasS_no (by have := HT.out; rwa [List.take_of_length_le (by omega)] at this))
      go_wp2_with fail
      go_ret
      exact ⟨ret_bool HA.out.symm, rfl⟩
set_option maxHeartbeats 400000 in
theorem laws_sameTextsS (v u : Value) (ss : List ByteArray) (w : World) (h : IsStrs w v ss) (h' : IsStrs w u ss) :
    Calls Tryd.prog 29 #[v, u] w fun e w' => e = .returned (.bool true) ∧ Qt w w' := by
  obtain ⟨A, c, rfl, h2, h3, rd⟩ := h
  obtain ⟨A', c', rfl, h2', h3', rd'⟩ := h'
  unfold maxLen at h3 h3'
  have RD := Lib.hid rd
  have RD' := Lib.hid rd'
  clear rd rd'
  have g1 : ((ss.length : Int) != (ss.length : Int)) = false := by simp
  go_enter Tryd.func29, Tryd.ntmps29
  go_wp2_with fail
  go_loopw [5] (fun i wr => ∃ (k m : Nat), k ≤ ss.length ∧ i = .int .i64 k ∧ wr = w.drewN m) (fun i _ => ss.length - (intOf i).toNat)
  case atStart => exact ⟨0, 0, Nat.zero_le _, rfl, rfl⟩
  case round =>
    obtain ⟨k, m, hk, rfl, rfl⟩ := hrel
    by_cases hlt : k < ss.length
    · obtain ⟨b, off, rfl, hcell⟩ := rd_str RD.out hlt
      obtain ⟨b', off', rfl, hcell'⟩ := rd_str RD'.out hlt
      have h0k : (0 : Int) ≤ (k : Int) := by omega
      have h1k : (k : Int) < (ss.length : Int) := by omega
      have q := str_eq ss[k] ss[k]
      rw [decide_eq_true rfl] at q
      go_wp2_with fail
      go_quiet (fail)
      go_wp2_with fail
      go_roundw
      case rel => exact ⟨k + 1, _, by omega, by go_num, rfl⟩
      case measure => simp [intOf]; omega
    · go_wp2_with fail
      go_ret
      exact ⟨rfl, Qt.of_drewN _ _⟩
end Go.Proofs.YtefcdpkficojgaaDoor
