/- DrawTerm and DrawPlaces, the laws' own looking through texts, and what is so of a drawn term. -/
import Derived.Test.YtnlinlgmbpdfdaaTermDraw
import Derived.Test.YtnlinlgmbpdfdaaWorked
import Derived.Test.YtnlinlgmbpdfdaaReadsLaw
namespace Go.Proofs.Ytnlinlgmbpdfdaa
open Go.RowKit
set_option linter.unusedVariables false

/- plain -/
theorem okT_mono {r : Nat} : ∀ {t : Tm}, okT r t = true → okT (r + 1) t = true := by
  induction r with
  | zero =>
    intro t h
    obtain ⟨k, n, s, kids⟩ := t
    by_cases h1 : k = 1
    · subst h1; rw [okT_num] at h ⊢; exact h
    by_cases h2 : k = 2
    · subst h2; rw [okT_var] at h ⊢; exact h
    rw [okT_zero (by simpa using h1) (by simpa using h2)] at h
    cases h
  | succ r ih =>
    intro t h
    obtain ⟨k, n, s, kids⟩ := t
    by_cases h1 : k = 1
    · subst h1; rw [okT_num] at h ⊢; exact h
    by_cases h2 : k = 2
    · subst h2; rw [okT_var] at h ⊢; exact h
    rw [okT_more (by simpa using h1) (by simpa using h2)] at h ⊢
    rw [Bool.and_eq_true] at h ⊢
    refine ⟨h.1, ?_⟩
    rw [List.all_eq_true] at h ⊢
    exact fun x hx => ih (h.2 x hx)
theorem okT_le {r r' : Nat} {t : Tm} (hle : r ≤ r') (h : okT r t = true) : okT r' t = true := by
  induction hle with
  | refl => exact h
  | step _ ih => exact okT_mono ih
theorem empty_name : ByteArray.empty.toList.isEmpty = true := by rw [Lib.toList_data]; rfl
theorem leafD_ok (code : List UInt8) (x : Int) (k : Cur) (r : Nat) : okT r (leafD code x k).1 = true := by
  by_cases h : x < 3
  · rw [leafD_num h, okT_num]
    have hb := belowD_bd code (n := 8) (by decide) k
    have := pickI_in (fun z => inB z 0 1000000000 = true) (zs := tmNums) (x := (belowD code 8 k).1) (by decide) (by show _ < 8; omega)
    rw [this, empty_name]; rfl
  · rw [leafD_var h, okT_var]
    have hb := belowD_bd code (n := 5) (by decide) k
    have := pickS_in (fun z => isNameL z.data.toList = true) (ss := tmNames) (x := (belowD code 5 k).1) (by decide) (by show _ < 5; omega)
    rw [this]; rfl
theorem okT_not {r : Nat} {t : Tm} (h : okT r t = true) : okT (r + 1) (.mk 8 0 ByteArray.empty [t]) = true := by
  rw [okT_more rfl rfl, empty_name]
  simp only [List.all_cons, List.all_nil, h]; rfl
theorem okT_two {r : Nat} {k : Int} {t u : Tm} (hk : k ∈ tmKinds) (h : okT r t = true) (h' : okT r u = true) : okT (r + 1) (.mk k 0 ByteArray.empty [t, u]) = true := by
  have hh : (k == 1) = false ∧ (k == 2) = false ∧ inB k 3 9 = true ∧ ((2 : Int) == manyK k) = true := by
    revert k hk; decide
  rw [okT_more hh.1 hh.2.1]
  have e : ((([t, u] : List Tm).length : Int) == manyK k) = true := hh.2.2.2
  rw [hh.2.2.1, e, empty_name]
  simp only [List.all_cons, List.all_nil, h, h']; rfl
theorem termD_ok (code : List UInt8) (d : Nat) : ∀ k, okT d (termD code d k).1 = true := by
  induction d with
  | zero => intro k; rw [termD_zero]; exact leafD_ok _ _ _ _
  | succ d ih =>
    intro k
    by_cases h6 : (belowD code 12 k).1 < 6
    · rw [termD_leaf h6]; exact leafD_ok _ _ _ _
    by_cases h7 : (belowD code 12 k).1 = 6
    · rw [termD_not h7]; exact okT_not (ih _)
    · rw [termD_two (by omega)]
      have hb := belowD_bd code (n := 6) (by decide) (belowD code 12 k).2
      exact okT_two (pickI_mem (by show _ < 6; omega)) (ih _) (ih _)
mutual
theorem tot_reads (acc : List ByteArray) : (t : Tm) → ∀ s ∈ acc, s ∈ readsT acc t
  | .mk k n s kids => by
    intro x hx
    rw [readsT]
    split
    · unfold addOnceP; split
      · exact hx
      · exact List.mem_append_left _ hx
    · exact tot_readss acc kids x hx
theorem tot_readss (acc : List ByteArray) : (l : List Tm) → ∀ s ∈ acc, s ∈ readsTs acc l
  | [] => by intro x hx; rw [readsTs]; exact hx
  | t :: r => by
    intro x hx
    rw [readsTs]
    exact tot_readss _ r x (tot_reads acc t x hx)
end
theorem varK_unread {names : List ByteArray} {values : List Int} {s : ByteArray} {i : Nat} {v : Int} (hi : i < names.length) (h : names[i] ≠ s) : varK names (values.set i v) s = varK names values s := by
  unfold varK
  cases hf : names.findIdx? (fun x => decide (x = s)) with
  | none => rfl
  | some k =>
    rw [List.findIdx?_eq_some_iff_getElem] at hf
    obtain ⟨hk, he, _⟩ := hf
    have hik : i ≠ k := by
      rintro rfl
      exact h (of_decide_eq_true he)
    simp only
    rw [List.getElem?_set_ne hik]
mutual
/-- a value that a term does not read does not matter to it -/
theorem valT_unread {names : List ByteArray} {values : List Int} {i : Nat} {v : Int} (hi : i < names.length) (acc : List ByteArray) : (t : Tm) → names[i] ∉ readsT acc t → valT names (values.set i v) t = valT names values t
  | .mk k n s kids => by
    intro h
    rw [valT, valT]
    rw [readsT] at h
    by_cases h1 : k = 1
    · rw [if_pos h1, if_pos h1]
    rw [if_neg h1, if_neg h1]
    by_cases h2 : k = 2
    · rw [if_pos h2, if_pos h2]
      rw [if_pos h2] at h
      refine varK_unread hi ?_
      rintro e
      refine h ?_
      unfold addOnceP
      split
      · rename_i hs; rw [e]; exact has_iff.1 hs
      · rw [e]; simp
    · rw [if_neg h2, if_neg h2]
      rw [if_neg h2] at h
      rw [valTs_unread hi acc kids h]
theorem valTs_unread {names : List ByteArray} {values : List Int} {i : Nat} {v : Int} (hi : i < names.length) (acc : List ByteArray) : (l : List Tm) → names[i] ∉ readsTs acc l → valTs names (values.set i v) l = valTs names values l
  | [] => by intro _; rw [valTs, valTs]
  | t :: r => by
    intro h
    rw [readsTs] at h
    rw [valTs, valTs, valTs_unread hi _ r h, valT_unread hi acc t (fun hn => h (tot_readss _ r _ hn))]
end
theorem yes_sum (b : Bool) : yesK b + yesK (yesK b == 0) = 1 := by cases b <;> rfl
theorem yes_one (b : Bool) : (yesK b == 1) = b := by cases b <;> rfl
theorem mod_self (n : Int) : opK 4 n n = 0 := by rw [opK4]; simp [modK]
def placesL (code : List UInt8) : Nat → Cur → List Int → List Int
  | 0, _, acc => acc
  | n + 1, k, acc => placesL code n (belowD code 10000 k).2 (acc ++ [(belowD code 10000 k).1])
def placesD (code : List UInt8) : List Int := placesL code 12 (byteD code (curNew code)).2 []
theorem placesL_ok (code : List UInt8) (n : Nat) : ∀ k acc, (∀ z ∈ acc, 0 ≤ z ∧ z < 10000) → (placesL code n k acc).length = acc.length + n ∧ ∀ z ∈ placesL code n k acc, 0 ≤ z ∧ z < 10000 := by
  induction n with
  | zero => intro k acc h; exact ⟨rfl, h⟩
  | succ n ih =>
    intro k acc h
    rw [placesL]
    have hb := belowD_bd code (n := 10000) (by decide) k
    obtain ⟨h1, h2⟩ := ih (belowD code 10000 k).2 (acc ++ [(belowD code 10000 k).1]) (fun z hz => by
      rcases List.mem_append.1 hz with hz | hz
      · exact h z hz
      · rw [List.mem_singleton.1 hz]; exact hb)
    exact ⟨by rw [h1, List.length_append]; simp; omega, h2⟩
theorem placesD_ok (code : List UInt8) : (placesD code).length = 12 ∧ ∀ z ∈ placesD code, 0 ≤ z ∧ z < 10000 := by
  have := placesL_ok code 12 (byteD code (curNew code)).2 [] (by simp)
  exact ⟨by rw [placesD, this.1]; rfl, this.2⟩
set_option maxHeartbeats 800000 in
theorem spec_DrawTerm (A : Option Addr) (c : Nat) (code : List UInt8) (w : World) (rd : Rd w 1 A code.length (bv code)) (hl : code.length ≤ 1048576) (hc : c ≤ maxLen) :
    Calls Try.prog 5 #[.slice A code.length c] w (RetT w (termD code 3 (curNew code)).1) := by
  have RD := Lib.hid rd
  clear rd
  go_enter Try.func5, Try.ntmps5
  go_wp2_with fail
  refine (spec_l01New A c code _ (RD.out.alloc _) hl hc).mono ?_
  rintro e w1 ⟨p, rfl, hp, k1, b1⟩
  have K1 := Lib.hid k1
  have B1 := Lib.hid b1
  have X1 : BoxZ w1 w.heap.size := BoxZ.below ⟨heap_alloc_new _ _⟩ b1
  have HX := Lib.hid X1
  simp only [World.size_alloc] at hp
  have hs1 := b1.size
  simp only [World.size_alloc] at hs1
  clear k1 b1 X1
  go_wp2_with fail
  refine (spec_l03Term 3 (by decide) p A c code (curNew code) _ ((RD.out.alloc _).below B1.out) hl hc K1.out).mono ?_
  rintro e w2 ⟨k2, n2, s2, A2, m2, c2, rfl, t2, q2, kp2⟩
  have T2 := Lib.hid t2
  have BW : Hid (Below w.heap.size w w2) := Lib.hid ((Below.trans (Below.alloc (Below.refl _ _) (Nat.le_refl _) _) (B1.out.mono (by simp))).trans (kp2.below (n := w.heap.size) (by omega) (fun b hb => by omega)))
  obtain ⟨⟨c0, c1, c2', c3⟩, f0, f1, f2, f3⟩ := (HX.out.keep kp2 (by omega)).cells
  clear t2 q2 kp2
  go_wp2_with fail
  refine bodyPost_ret (v := .agg #[.int .i64 k2, .int .i64 n2, .string s2, .slice A2 m2 c2]) (by simp [results, Try.results5, go_sem, c0, c1, c2', c3]) rfl ?_
  exact ⟨_, _, _, _, _, _, rfl, (T2.out.put4F (g := w.heap.size) (by omega) 0 (vt _ _ _ _ _ _)).mono (by omega), (((BW.out.setCell (by simp) _).setCell (by simp) _).setCell (by simp) _).setCell (by simp) _⟩
set_option maxHeartbeats 1600000 in
theorem spec_DrawPlaces (A : Option Addr) (c : Nat) (code : List UInt8) (w : World) (rd : Rd w 1 A code.length (bv code)) (hl : code.length ≤ 1048576) (hc : c ≤ maxLen) :
    Calls Try.prog 6 #[.slice A code.length c] w fun e w' => ∃ v', e = .returned v' ∧ IsInts w' v' (placesD code) ∧ Below w.heap.size w w' := by
  have RD := Lib.hid rd
  clear rd
  go_enter Try.func6, Try.ntmps6
  go_wp2_with fail
  refine (spec_l01New A c code _ RD.out hl hc).mono ?_
  rintro e w1 ⟨p, rfl, hp, k1, b1⟩
  have K1 := Lib.hid k1
  have B1 := Lib.hid b1
  clear k1 b1
  go_wp2_with fail
  refine (spec_l01Byte p A c code _ _ (RD.out.below B1.out) hl hc K1.out).mono ?_
  rintro e w2 ⟨rfl, k2, kp2⟩
  have K2 := Lib.hid k2
  have B2 := Lib.hid (B1.out.trans (kp2.below B1.out.size (fun b hb => by omega)))
  have HG : Hid (placesD code = placesL code 12 (byteD code (curNew code)).2 []) := Lib.hid rfl
  clear k2 kp2
  generalize hk2 : (byteD code (curNew code)).2 = ck at *
  clear hk2
  have OE : Hid (Own w (w2.alloc (.cells #[] 3)) 3 1 (.slice (some ⟨w2.heap.size, 0, none⟩) 0 0) 0 []) := Lib.hid (Own.lit B2.out _ 1 0 #[] (by simp [maxLen]) rfl)
  have KE := Lib.hid (K2.out.keep (Below.alloc (Below.refl w2.heap.size w2) (Nat.le_refl _) (.cells #[] 3)))
  go_wp2_with fail
  go_loopw [4, 5] (fun lv i wr => ∃ j : Nat, j ≤ 12 ∧ i = .int .i64 j ∧ ∃ A' c', lv = .slice A' j c' ∧ Hid (∃ (k : Cur) (acc : List Int), acc.length = j ∧ CurAt wr p A c code k ∧ Own w wr 3 1 (.slice A' j c') j (acc.map (Value.int .i64)) ∧ placesL code (12 - j) k acc = placesD code)) (fun _ i _ => 12 - (intOf i).toNat)
  case atStart => exact ⟨0, by omega, rfl, _, _, rfl, Lib.hid ⟨ck, [], rfl, KE.out, OE.out, HG.out.symm⟩⟩
  case round =>
    obtain ⟨j, hj, rfl, A', c', rfl, HR⟩ := hrel
    obtain ⟨k, acc, hacc, hk, own, hD⟩ := HR.out
    have CK := Lib.hid hk
    have OW := Lib.hid own
    have HD := Lib.hid hD
    have HA := Lib.hid hacc
    clear hk own hD hacc HR
    by_cases hlt : j < 12
    · have hjj : (j : Int) < 12 := by omega
      go_wp2_with fail
      refine (spec_l01Below 10000 p A c code k _ (RD.out.below OW.out.2) hl hc CK.out (by omega)).mono ?_
      rintro e w3 ⟨rfl, k3, kp3⟩
      have K3 := Lib.hid k3
      have O3 := Lib.hid (own_cur' OW.out CK.out kp3 (by decide) hp)
      have HD2 : Hid (placesL code (12 - (j + 1)) (belowD code 10000 k).2 (acc ++ [(belowD code 10000 k).1]) = placesD code) := Lib.hid (by
        rw [← HD.out, show 12 - j = (12 - (j + 1)) + 1 from by omega]; rfl)
      clear k3 kp3
      generalize hx3 : belowD code 10000 k = y3 at *
      clear hx3
      obtain ⟨x3, k3⟩ := y3
      simp only at K3 HD2
      go_wp2_with (at_builtin; refine wpList_app_keep rfl _ _ _ rfl intT O3.out _ 1 rfl rfl rfl (by simp [Value.oneCell']) (by simp only [maxLen]; omega) (by omega) ?_; intro v6 w6 own6 kp6)
      have RN : Hid (∃ A6 c6, v6 = .slice A6 (j + 1) c6 ∧ ∃ (k : Cur) (acc : List Int), acc.length = j + 1 ∧ CurAt w6 p A c code k ∧ Own w w6 3 1 (.slice A6 (j + 1) c6) (j + 1) (acc.map (Value.int .i64)) ∧ placesL code (12 - (j + 1)) k acc = placesD code) := Lib.hid (by
        obtain ⟨A6, c6, rfl, _⟩ := own6.slice
        refine ⟨A6, c6, rfl, k3, acc ++ [x3], by rw [List.length_append, HA.out]; rfl, ⟨(kp6.block p (lt_of_block K3.out.at') (sane_of K3.out.at' (by decide))).trans K3.out.at', K3.out.le⟩, ?_, HD2.out⟩
        rw [List.map_append]; exact own6)
      obtain ⟨A6, c6, rfl, hex⟩ := RN.out
      have R6 := Lib.hid hex
      clear own6 kp6 RN hex
      go_roundw
      case rel => exact ⟨j + 1, by omega, by go_num, A6, c6, rfl, R6⟩
      case measure => simp [intOf]; omega
    · have hjj : ¬ (j : Int) < 12 := by omega
      have EA : Hid (acc = placesD code) := Lib.hid (by rw [← HD.out, show 12 - j = 0 from by omega]; rfl)
      go_wp2_with fail
      go_ret
      refine ⟨_, rfl, ?_, OW.out.2⟩
      rw [← EA.out]
      have := OW.out
      rw [← HA.out] at this ⊢
      exact (IsIntsF.of_own this (Nat.le_refl _)).is
set_option maxHeartbeats 400000 in
theorem laws_hasText (v : Value) (ss : List ByteArray) (x : ByteArray) (w : World) (h : IsStrs w v ss) : Calls Try.prog 9 #[v, .string x] w fun e w' => e = .returned (.bool (hasS ss x)) ∧ w = w' := by
  obtain ⟨A, c, rfl, h2, h3, rd⟩ := h
  unfold maxLen at h3
  have RD := Lib.hid rd
  clear rd
  go_enter Try.func9, Try.ntmps9
  go_wp2_with fail
  go_loopw [5] (fun i wr => ∃ j : Nat, j ≤ ss.length ∧ i = .int .i64 j ∧ wr = w ∧ Hid (∀ y ∈ ss.take j, y ≠ x)) (fun i _ => ss.length - (intOf i).toNat)
  case atStart => exact ⟨0, Nat.zero_le _, rfl, rfl, Lib.hid (by simp)⟩
  case round =>
    obtain ⟨j, hj, rfl, rfl, HT⟩ := hrel
    by_cases hlt : j < ss.length
    · obtain ⟨b, off, rfl, hcell⟩ := rd_str RD.out hlt
      have h0k : (0 : Int) ≤ (j : Int) := by omega
      have h1k : (j : Int) < (ss.length : Int) := by omega
      have q := str_eq ss[j] x
      by_cases e : ss[j] = x
      · have HA := Lib.hid (hasS_at hlt e)
        rw [decide_eq_true e] at q
        clear e
        go_wp2_with fail
        go_ret
        exact ⟨ret_bool HA.out.symm, rfl⟩
      · have HE := Lib.hid e
        rw [decide_no e] at q
        clear e
        go_wp2_with fail
        go_roundw
        case rel => exact ⟨j + 1, by omega, by go_num, (by first | rfl | trivial), Lib.hid (take_all_succ HT.out hlt HE.out)⟩
        case measure => simp [intOf]; omega
    · have HA := Lib.hid (hasS_no (by have := HT.out; rwa [List.take_of_length_le (by omega)] at this))
      go_wp2_with fail
      go_ret
      exact ⟨ret_bool HA.out.symm, rfl⟩
set_option maxHeartbeats 400000 in
theorem laws_sameTexts (v u : Value) (ss : List ByteArray) (w : World) (h : IsStrs w v ss) (h' : IsStrs w u ss) :
    Calls Try.prog 12 #[v, u] w fun e w' => e = .returned (.bool true) ∧ Qt w w' := by
  obtain ⟨A, c, rfl, h2, h3, rd⟩ := h
  obtain ⟨A', c', rfl, h2', h3', rd'⟩ := h'
  unfold maxLen at h3 h3'
  have RD := Lib.hid rd
  have RD' := Lib.hid rd'
  clear rd rd'
  have g1 : ((ss.length : Int) != (ss.length : Int)) = false := by simp
  go_enter Try.func12, Try.ntmps12
  go_wp2_with fail
  go_loopw [5] (fun i wr => ∃ (k m : Nat), k ≤ ss.length ∧ i = .int .i64 k ∧ wr = w.drewN m) (fun i _ => ss.length - (intOf i).toNat)
  case atStart => exact ⟨0, 0, Nat.zero_le _, rfl, rfl⟩
  case round =>
    obtain ⟨k, m, hk, rfl, rfl⟩ := hrel
    by_cases hlt : k < ss.length
    · obtain ⟨b, off, rfl, hcell⟩ := rd_str RD.out hlt
      obtain ⟨b', off', rfl, hcell'⟩ := rd_str RD'.out hlt
      have h0k : (0 : Int) ≤ (k : Int) := by omega
      have h1k : (k : Int) < (ss.length : Int) := by omega
      have q := str_eq ss[k] ss[k]
      rw [decide_eq_true rfl] at q
      go_wp2_with fail
      go_quiet (fail)
      go_wp2_with fail
      go_roundw
      case rel => exact ⟨k + 1, _, by omega, by go_num, rfl⟩
      case measure => simp [intOf]; omega
    · go_wp2_with fail
      go_ret
      exact ⟨rfl, Qt.of_drewN _ _⟩
end Go.Proofs.Ytnlinlgmbpdfdaa
