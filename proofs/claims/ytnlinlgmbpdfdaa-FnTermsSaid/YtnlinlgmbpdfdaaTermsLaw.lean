/- The law over drawn terms. -/
import Derived.Test.YtnlinlgmbpdfdaaTermLaws
import Derived.Test.YtnlinlgmbpdfdaaWorkedLaw
import Derived.Test.YtnlinlgmbpdfdaaSameTerm
import Derived.Deep.CutRange
namespace Go.Proofs.Ytnlinlgmbpdfdaa
open Go.RowKit
set_option linter.unusedVariables false

theorem nodes_okT (r : Nat) : ∀ t, okT r t = true → nodes t + 1 ≤ 2 ^ (r + 1) := by
  induction r with
  | zero =>
    intro t h
    obtain ⟨k, n, s, kids⟩ := t
    by_cases h1 : k = 1
    · subst h1
      rw [okT_num] at h
      have : kids = [] := by
        have := (Bool.and_eq_true _ _ ▸ h).2
        exact List.eq_nil_of_length_eq_zero (by simpa using this)
      subst this; simp [nodes, nodess]
    by_cases h2 : k = 2
    · subst h2
      rw [okT_var] at h
      have : kids = [] := by
        have := (Bool.and_eq_true _ _ ▸ h).2
        exact List.eq_nil_of_length_eq_zero (by simpa using this)
      subst this; simp [nodes, nodess]
    rw [okT_zero (by simpa using h1) (by simpa using h2)] at h
    cases h
  | succ r ih =>
    intro t h
    obtain ⟨k, n, s, kids⟩ := t
    have hp : 2 ^ (r + 1 + 1) = 2 ^ (r + 1) + 2 ^ (r + 1) := by rw [Nat.pow_succ]; omega
    have hpos : 2 ≤ 2 ^ (r + 1) := by rw [Nat.pow_succ]; have := Nat.two_pow_pos r; omega
    by_cases h1 : k = 1
    · subst h1
      rw [okT_num] at h
      have : kids = [] := by
        have := (Bool.and_eq_true _ _ ▸ h).2
        exact List.eq_nil_of_length_eq_zero (by simpa using this)
      subst this
      simp only [nodes, nodess]; omega
    by_cases h2 : k = 2
    · subst h2
      rw [okT_var] at h
      have : kids = [] := by
        have := (Bool.and_eq_true _ _ ▸ h).2
        exact List.eq_nil_of_length_eq_zero (by simpa using this)
      subst this
      simp only [nodes, nodess]; omega
    obtain ⟨r', he, ⟨_, x, rfl, hx⟩ | ⟨_, x, y, rfl, hx, hy⟩⟩ := okT_kids h1 h2 h
    · have : r' = r := by omega
      subst this
      have := ih x hx
      simp only [nodes, nodess]; omega
    · have : r' = r := by omega
      subst this
      have := ih x hx
      have := ih y hy
      simp only [nodes, nodess]; omega
def lawNames : List ByteArray := [⟨#[120]⟩, ⟨#[121]⟩, ⟨#[122]⟩, ⟨#[117]⟩]
theorem draw_term_is (A : Option Addr) (c : Nat) (code : List UInt8) (hl : code.length ≤ 1048576) (hc : c ≤ maxLen) : ∃ t, okT 3 t = true ∧ nodes t ≤ 16 ∧
    ∀ w, Rd w 1 A code.length (bv code) → Calls Try.prog 5 #[.slice A code.length c] w (RetT w t) := by
  have h := termD_ok code 3 (curNew code)
  refine ⟨_, h, by have := nodes_okT 3 _ h; omega, fun w rd => spec_DrawTerm A c code w rd hl hc⟩
theorem draw_places_is (A : Option Addr) (c : Nat) (code : List UInt8) (hl : code.length ≤ 1048576) (hc : c ≤ maxLen) : ∃ p0 p1 p2 p3 : Int, (0 ≤ p0 ∧ p0 < 10000) ∧ (0 ≤ p1 ∧ p1 < 10000) ∧ (0 ≤ p2 ∧ p2 < 10000) ∧ (0 ≤ p3 ∧ p3 < 10000) ∧
    ∀ w, Rd w 1 A code.length (bv code) → Calls Try.prog 6 #[.slice A code.length c] w fun e w' => ∃ b off c', e = .returned (.slice (some ⟨b, off, none⟩) 12 c') ∧ (w'.cell? ⟨b, off, none⟩ = some (.int .i64 p0) ∧ w'.cell? ⟨b, off + 1, none⟩ = some (.int .i64 p1) ∧ w'.cell? ⟨b, off + 2, none⟩ = some (.int .i64 p2) ∧ w'.cell? ⟨b, off + 3, none⟩ = some (.int .i64 p3)) ∧ Below w.heap.size w w' := by
  obtain ⟨h1, h2⟩ := placesD_ok code
  refine ⟨(placesD code)[0], (placesD code)[1], (placesD code)[2], (placesD code)[3], h2 _ (List.getElem_mem _), h2 _ (List.getElem_mem _), h2 _ (List.getElem_mem _), h2 _ (List.getElem_mem _), fun w rd => (spec_DrawPlaces A c code w rd hl hc).mono ?_⟩
  rintro e w' ⟨v', rfl, ⟨A', c', rfl, _, _, rdz⟩, b⟩
  obtain ⟨b0, o0, rfl, hcell⟩ := rdz.2 (by omega)
  refine ⟨b0, o0, c', by rw [h1], ⟨?_, ?_, ?_, ?_⟩, b⟩
  · exact hcell 0 _ (by simp [h1])
  · exact hcell 1 _ (by simp [h1])
  · exact hcell 2 _ (by simp [h1])
  · exact hcell 3 _ (by simp [h1])
/-- a term over one, over two others, laid in a variable -/
theorem mk_one {w : World} {k n : Int} {s : ByteArray} {A : Option Addr} {m c : Nat} {t : Tm} (h : TmIs (Fr 0 w) w [.int .i64 k, .int .i64 n, .string s, .slice A m c] t) :
    TmIs (Fr 0 ((w.alloc (.cells #[.int .i64 k, .int .i64 n, .string s, .slice A m c] 26)).alloc (.cells #[.int .i64 8, .int .i64 0, .string ⟨#[]⟩, .slice (some ⟨w.heap.size, 0, none⟩) 1 1] 26))) ((w.alloc (.cells #[.int .i64 k, .int .i64 n, .string s, .slice A m c] 26)).alloc (.cells #[.int .i64 8, .int .i64 0, .string ⟨#[]⟩, .slice (some ⟨w.heap.size, 0, none⟩) 1 1] 26))
      [.int .i64 8, .int .i64 0, .string ⟨#[]⟩, .slice (some ⟨w.heap.size, 0, none⟩) 1 1] (.mk 8 0 ByteArray.empty [t]) ∧
    Box4 ((w.alloc (.cells #[.int .i64 k, .int .i64 n, .string s, .slice A m c] 26)).alloc (.cells #[.int .i64 8, .int .i64 0, .string ⟨#[]⟩, .slice (some ⟨w.heap.size, 0, none⟩) 1 1] 26)) (w.heap.size + 1) (vt 8 0 ⟨#[]⟩ (some ⟨w.heap.size, 0, none⟩) 1 1) ∧
    Below w.heap.size w ((w.alloc (.cells #[.int .i64 k, .int .i64 n, .string s, .slice A m c] 26)).alloc (.cells #[.int .i64 8, .int .i64 0, .string ⟨#[]⟩, .slice (some ⟨w.heap.size, 0, none⟩) 1 1] 26)) := by
  refine ⟨?_, Box4.lit (by simp), (Below.alloc (Below.refl _ _) (Nat.le_refl _) _).alloc (by simp) _⟩
  exact TmIs.mk' (kids := [t]) (by unfold i64in; omega) (by unfold i64in; omega) (Nat.zero_le _) (by simp) (by simp [maxLen]) ((row_one h (Nat.zero_le _)).belowF (Below.alloc (Below.refl _ _) (Nat.le_refl _) _))
theorem mk_two {w : World} {k n : Int} {s : ByteArray} {A : Option Addr} {m c : Nat} {t : Tm} (h : TmIs (Fr 0 w) w [.int .i64 k, .int .i64 n, .string s, .slice A m c] t) {k' n' : Int} {s' : ByteArray} {A' : Option Addr} {m' c' : Nat} {t' : Tm} (h' : TmIs (Fr 0 w) w [.int .i64 k', .int .i64 n', .string s', .slice A' m' c'] t') :
    TmIs (Fr 0 ((w.alloc (.cells #[.int .i64 k, .int .i64 n, .string s, .slice A m c, .int .i64 k', .int .i64 n', .string s', .slice A' m' c'] 26)).alloc (.cells #[.int .i64 4, .int .i64 0, .string ⟨#[]⟩, .slice (some ⟨w.heap.size, 0, none⟩) 2 2] 26))) ((w.alloc (.cells #[.int .i64 k, .int .i64 n, .string s, .slice A m c, .int .i64 k', .int .i64 n', .string s', .slice A' m' c'] 26)).alloc (.cells #[.int .i64 4, .int .i64 0, .string ⟨#[]⟩, .slice (some ⟨w.heap.size, 0, none⟩) 2 2] 26))
      [.int .i64 4, .int .i64 0, .string ⟨#[]⟩, .slice (some ⟨w.heap.size, 0, none⟩) 2 2] (.mk 4 0 ByteArray.empty [t, t']) ∧
    Box4 ((w.alloc (.cells #[.int .i64 k, .int .i64 n, .string s, .slice A m c, .int .i64 k', .int .i64 n', .string s', .slice A' m' c'] 26)).alloc (.cells #[.int .i64 4, .int .i64 0, .string ⟨#[]⟩, .slice (some ⟨w.heap.size, 0, none⟩) 2 2] 26)) (w.heap.size + 1) (vt 4 0 ⟨#[]⟩ (some ⟨w.heap.size, 0, none⟩) 2 2) ∧
    Below w.heap.size w ((w.alloc (.cells #[.int .i64 k, .int .i64 n, .string s, .slice A m c, .int .i64 k', .int .i64 n', .string s', .slice A' m' c'] 26)).alloc (.cells #[.int .i64 4, .int .i64 0, .string ⟨#[]⟩, .slice (some ⟨w.heap.size, 0, none⟩) 2 2] 26)) := by
  refine ⟨?_, Box4.lit (by simp), (Below.alloc (Below.refl _ _) (Nat.le_refl _) _).alloc (by simp) _⟩
  exact TmIs.mk' (kids := [t, t']) (by unfold i64in; omega) (by unfold i64in; omega) (Nat.zero_le _) (by simp) (by simp [maxLen]) ((row_two h h' (Nat.zero_le _)).belowF (Below.alloc (Below.refl _ _) (Nat.le_refl _) _))
set_option maxHeartbeats 6400000 in
set_option maxRecDepth 100000 in
theorem law_Terms (v : Value) (code : List UInt8) (w : World) (o : ∃ A c, v = .slice A code.length c ∧ code.length ≤ c ∧ c ≤ maxLen ∧ Rd w 1 A code.length (bv code)) :
    Calls Try.prog 3 #[v] w fun e w' => e = .returned (.bool true) ∧ Below w.heap.size w w' := by
  obtain ⟨A, c, rfl, hl, hc, rd⟩ := o
  have RD := Lib.hid rd
  clear rd
  by_cases hb : 1048576 < code.length
  · go_enter Try.func3, Try.ntmps3
    go_wp2_with fail
    refine (big_yes A code.length c _ hb).mono ?_
    rintro e w1 ⟨rfl, rfl⟩
    go_wp2_with fail
    go_ret
    exact ⟨rfl, Below.refl _ _⟩
  obtain ⟨t, hok, hnod, dg⟩ := draw_term_is A c code (by omega) hc
  obtain ⟨p0, p1, p2, p3, hp0, hp1, hp2, hp3, dp⟩ := draw_places_is A c code (by omega) hc
  have DG := Lib.hid dg
  have DP := Lib.hid dp
  have OK := Lib.hid (okT_le (r' := 6) (by decide) hok)
  have hc' := hc
  unfold maxLen at hc'
  clear dg dp
  go_enter Try.func3, Try.ntmps3
  go_wp2_with fail
  refine (big_no A code.length c _ hb).mono ?_
  rintro e w0 ⟨rfl, rfl⟩
  go_wp2_with fail
  refine (DG.out _ RD.out).mono ?_
  rintro e w1 ⟨k1, n1, s1, A1, m1, c1, rfl, t1, b1⟩
  have T1 := Lib.hid (t1.mono (Nat.zero_le _))
  have B1 := Lib.hid b1
  clear t1 b1
  go_wp2_with fail
  refine (DG.out _ (RD.out.below (B1.out.alloc B1.out.size _))).mono ?_
  rintro e w2 ⟨k2, n2, s2, A2, m2, c2, rfl, t2, b2⟩
  have T2 := Lib.hid (t2.mono (Nat.zero_le _))
  have BX2 : Hid (Box4 w2 w1.heap.size (vt k1 n1 s1 A1 m1 c1)) := Lib.hid (Box4.below (Box4.lit rfl) b2)
  have D12 := Below.trans (Below.alloc (Below.refl w1.heap.size w1) (Nat.le_refl _) (.cells #[.int .i64 k1, .int .i64 n1, .string s1, .slice A1 m1 c1] 26)) (b2.mono (by simp))
  have U2 := Lib.hid (T1.out.belowF D12)
  have B2 := Lib.hid (below_then B1.out D12)
  clear t2 b2 D12 T1
  go_wp2_with fail
  refine (DP.out _ (RD.out.below (B2.out.alloc B2.out.size _))).mono ?_
  rintro e w3 ⟨b, off, c3, rfl, ⟨h0, h1, h2, h3⟩, b3⟩
  have BY3 : Hid (Box4 w3 w2.heap.size (vt k2 n2 s2 A2 m2 c2)) := Lib.hid (Box4.below (Box4.lit rfl) b3)
  have D23 := Below.trans (Below.alloc (Below.refl w2.heap.size w2) (Nat.le_refl _) (.cells #[.int .i64 k2, .int .i64 n2, .string s2, .slice A2 m2 c2] 26)) (b3.mono (by simp))
  have U3 := Lib.hid (U2.out.belowF D23)
  have V3 := Lib.hid (T2.out.belowF D23)
  have BX3 := Lib.hid (BX2.out.below D23)
  have B3 := Lib.hid (below_then B2.out D23)
  clear b3 D23 T2 U2 BX2
  go_wp2_with fail
  have B34 : Below w3.heap.size w3 (w3.alloc (.cells #[.string ⟨#[120]⟩, .string ⟨#[121]⟩, .string ⟨#[122]⟩, .string ⟨#[117]⟩] 9)) := Below.alloc (Below.refl _ _) (Nat.le_refl _) _
  have NM4 : Hid (IsStrs (w3.alloc (.cells #[.string ⟨#[120]⟩, .string ⟨#[121]⟩, .string ⟨#[122]⟩, .string ⟨#[117]⟩] 9)) (.slice (some ⟨w3.heap.size, 0, none⟩) 4 4) lawNames) := Lib.hid ⟨_, 4, rfl, by decide, by simp [maxLen], Rd.new w3 1 4 _ _ rfl⟩
  replace h0 := cell_keep B34 h0
  replace h1 := cell_keep B34 h1
  replace h2 := cell_keep B34 h2
  replace h3 := cell_keep B34 h3
  have U4 := Lib.hid (U3.out.belowF B34)
  have V4 := Lib.hid (V3.out.belowF B34)
  have BX4 := Lib.hid (BX3.out.below B34)
  have BY4 := Lib.hid (BY3.out.below B34)
  have B4 := Lib.hid (below_then B3.out B34)
  clear B34 U3 V3 BX3 BY3 B3
  generalize w3.alloc (.cells #[.string ⟨#[120]⟩, .string ⟨#[121]⟩, .string ⟨#[122]⟩, .string ⟨#[117]⟩] 9) = w4 at *
  go_region_held3 (fun w' => w'.cell? ⟨b, off, none⟩ = some (.int .i64 p0) ∧ w'.cell? ⟨b, off + 1, none⟩ = some (.int .i64 p1) ∧ w'.cell? ⟨b, off + 2, none⟩ = some (.int .i64 p2) ∧ w'.cell? ⟨b, off + 3, none⟩ = some (.int .i64 p3)) (go_keep) ((first | fail))
  have q0 : 0 ≤ p0.tmod 1000 ∧ p0.tmod 1000 < 1000 := by rw [Int.tmod_eq_emod_of_nonneg hp0.1]; omega
  have q1 : 0 ≤ p1.tmod 1000 ∧ p1.tmod 1000 < 1000 := by rw [Int.tmod_eq_emod_of_nonneg hp1.1]; omega
  have q2 : 0 ≤ p2.tmod 1000 ∧ p2.tmod 1000 < 1000 := by rw [Int.tmod_eq_emod_of_nonneg hp2.1]; omega
  have q3 : 0 ≤ p3.tmod 1000 ∧ p3.tmod 1000 < 1000 := by rw [Int.tmod_eq_emod_of_nonneg hp3.1]; omega
  clear h0 h1 h2 h3
  generalize p0.tmod 1000 = x0 at *
  generalize p1.tmod 1000 = x1 at *
  generalize p2.tmod 1000 = x2 at *
  generalize p3.tmod 1000 = x3 at *
  have B45 : Below w4.heap.size w4 (w4.alloc (.cells #[.int .i64 x0, .int .i64 x1, .int .i64 x2, .int .i64 x3] 3)).drew := (Below.alloc (Below.refl _ _) (Nat.le_refl _) _).drew
  have IV5 : Hid (IsInts (w4.alloc (.cells #[.int .i64 x0, .int .i64 x1, .int .i64 x2, .int .i64 x3] 3)).drew (.slice (some ⟨w4.heap.size, 0, none⟩) 4 4) [x0, x1, x2, x3]) := Lib.hid ⟨_, 4, rfl, by simp, by simp [maxLen], (Rd.new w4 1 4 _ _ rfl).drew⟩
  have HV : Hid (∀ z ∈ [x0, x1, x2, x3], 0 ≤ z ∧ z < 1000) := Lib.hid (by
    intro z hz
    simp only [List.mem_cons, List.not_mem_nil, or_false] at hz
    rcases hz with rfl | rfl | rfl | rfl <;> assumption)
  have HI : Hid (∀ z ∈ [x0, x1, x2, x3], i64in z) := Lib.hid (fun z hz => by have := HV.out z hz; unfold i64in; omega)
  have U5 := Lib.hid (U4.out.belowF B45)
  have V5 := Lib.hid (V4.out.belowF B45)
  have BX5 := Lib.hid (BX4.out.below B45)
  have BY5 := Lib.hid (BY4.out.below B45)
  have NM5 := Lib.hid (NM4.out.below B45)
  have B5 := Lib.hid (below_then B4.out B45)
  clear B45 U4 V4 BX4 BY4 NM4 B4
  have hl4 : ([x0, x1, x2, x3] : List Int).length = 4 := rfl
  generalize hvals : [x0, x1, x2, x3] = vals at *
  clear hvals
  generalize (w4.alloc (.cells #[.int .i64 x0, .int .i64 x1, .int .i64 x2, .int .i64 x3] 3)).drew = w5 at *
  obtain ⟨d0, d1, d2, d3⟩ := BX5.out
  simp only [vt] at d0 d1 d2 d3
  go_wp2_with fail
  refine (impl_Worked lawNames vals t k1 n1 s1 A1 m1 c1 _ _ w5 U5.out.any NM5.out IV5.out HI.out).mono ?_
  rintro e w6 ⟨rfl, b6⟩
  rw [workK_yes OK.out]
  have U6 := Lib.hid (U5.out.belowF b6)
  have V6 := Lib.hid (V5.out.belowF b6)
  have BX6 := Lib.hid (BX5.out.below b6)
  have BY6 := Lib.hid (BY5.out.below b6)
  have NM6 := Lib.hid (NM5.out.below b6)
  have IV6 := Lib.hid (IV5.out.below b6)
  have B6 := Lib.hid (below_then B5.out b6)
  have hvt := valT_le lawNames vals t
  clear b6 U5 V5 BX5 BY5 NM5 IV5 B5 d0 d1 d2 d3
  have HVT : ∃ y, valT lawNames vals t = y := ⟨_, rfl⟩
  obtain ⟨y, hy⟩ := HVT
  rw [hy] at hvt ⊢
  have HY := Lib.hid hy
  clear hy
  obtain ⟨d0, d1, d2, d3⟩ := BX6.out
  simp only [vt] at d0 d1 d2 d3
  go_upto_region 9 with fail
  go_cut [9] from 15 to 46 (fun v9 wx => Hid (Below w6.heap.size w6 wx) ∧ ∃ A7 c7, v9 = .slice A7 (readsR t).length c7 ∧ Hid (IsStrs wx (.slice A7 (readsR t).length c7) (readsR t)))
  case first =>
    go_wp2_with fail
    refine (impl_ReadsOf t k1 n1 s1 A1 m1 c1 w6 U6.out.any (by omega)).mono ?_
    rintro e w7 ⟨v7, rfl, own7⟩
    have H7 := Lib.hid own7.2
    have RS7 := Lib.hid own7.isStrs
    obtain ⟨A7, c7, rfl, _⟩ := own7.slice
    clear own7
    go_wp2_with fail
    go_meet
    exact ⟨H7, A7, c7, rfl, RS7⟩
  obtain ⟨H7, A7, c7, rfl, RS7⟩ := hcut
  rename World => w7
  have U7 := Lib.hid (U6.out.belowF H7.out)
  have V7 := Lib.hid (V6.out.belowF H7.out)
  have BX7 := Lib.hid (BX6.out.below H7.out)
  have BY7 := Lib.hid (BY6.out.below H7.out)
  have NM7 := Lib.hid (NM6.out.below H7.out)
  have IV7 := Lib.hid (IV6.out.below H7.out)
  have B7 := Lib.hid (below_then B6.out H7.out)
  clear H7 U6 V6 BX6 BY6 NM6 IV6 B6 d0 d1 d2 d3
  have UNR : Hid (∀ (i : Nat) (hi : i < lawNames.length) (x : Int), hasS (readsR t) lawNames[i] = false → workK lawNames (vals.set i x) t = y) := Lib.hid (fun i hi x hx => by
    rw [workK_yes OK.out, ← HY.out]
    refine valT_unread hi [] t (fun hm => ?_)
    rw [readsR_yes OK.out, has_iff.2 hm] at hx
    cases hx)
  clear DG DP RD
  go_wp2_with fail
  go_loopw [10] (fun iv wr => ∃ j : Nat, j ≤ 4 ∧ iv = .int .i64 j ∧ Hid (Below w7.heap.size w7 wr)) (fun iv _ => 4 - (intOf iv).toNat)
  case atStart => exact ⟨0, Nat.zero_le _, rfl, Lib.hid (Below.refl _ _)⟩
  case round =>
    obtain ⟨j, hj, rfl, HB⟩ := hrel
    rename World => wq
    by_cases hlt : j < 4
    · have hjj : (j : Int) < 4 := by omega
      obtain ⟨A5, e5, ev, hl5, hc5, rd5⟩ := IV7.out.below HB.out
      injection ev with ev1 ev2 ev3
      subst ev1 ev3
      clear ev2
      have R5 := Lib.hid rd5
      have OE : Hid (Own wq (wq.alloc (.cells #[] 3)) 3 1 (.slice (some ⟨wq.heap.size, 0, none⟩) 0 0) 0 []) := Lib.hid (Own.lit (Below.refl _ _) _ 1 0 #[] (by simp [maxLen]) rfl)
      have h0j : (0 : Int) ≤ (j : Int) := by omega
      clear rd5
      go_wp2_with (at_builtin; refine wpList_app rfl _ _ _ rfl intT rfl OE.out _ 4 4 (vals.map (Value.int .i64)) rfl (hl4 ▸ R5.out.alloc _) (by intro u hu; obtain ⟨z, _, rfl⟩ := List.mem_map.1 hu; rfl) (by simp [maxLen]) (by omega) ?_; intro v8 w8 own8)
      have FW : Hid (∃ g cap, v8 = .slice (some ⟨g, 0, none⟩) 4 cap ∧ 4 ≤ cap ∧ cap ≤ maxLen ∧ Own wq w8 3 1 (.slice (some ⟨g, 0, none⟩) 4 cap) 4 (vals.map (Value.int .i64))) := Lib.hid (by
        have o8 : Own wq w8 3 1 v8 4 (vals.map (Value.int .i64)) := own8
        obtain ⟨g, cap, rfl, _, _⟩ := o8.1.form (by decide)
        obtain ⟨A', c', e', hc'⟩ := o8.slice
        injection e' with _ _ e3
        exact ⟨g, cap, rfl, by omega, own_cap' o8, o8⟩)
      obtain ⟨g, cap, rfl, hg4, hgm, o8⟩ := FW.out
      have O8 := Lib.hid o8
      clear own8 FW
      have hjv : j < vals.length := by omega
      have e0 := o8.cellAt (j := j) (u := .int .i64 vals[j]) (by omega) (by simp [hjv])
      have f0 := o8.freeAt j
      have hvj := HV.out vals[j] (List.getElem_mem hjv)
      clear o8
      generalize vals[j] = z at *
      have O9 := Lib.hid (O8.out.set j (.int .i64 ((z + 1) % 1000)))
      obtain ⟨An, en, env, hln, hcn, rdn⟩ := NM7.out.below (below_then HB.out O9.out.2)
      injection env with env1 env2 env3
      subst env1 env3
      clear env2
      have hjn : j < lawNames.length := hlt
      obtain ⟨bn, on, ebn, hcn'⟩ := rd_str rdn hjn
      injection ebn with ebn
      injection ebn with ebn1 ebn2
      subst ebn1 ebn2
      rw [Nat.zero_add] at hcn'
      have HX : Hid (hasS (readsR t) lawNames[j] = false → ∀ x, workK lawNames (vals.set j x) t = y) := Lib.hid (fun h x => UNR.out j hjn x h)
      clear rdn
      generalize lawNames[j] = nm at *
      have hx9 : 0 ≤ (z + 1) % 1000 ∧ (z + 1) % 1000 < 1000 := by omega
      have OS9 : Hid (IsInts (w8.setCell ⟨g, j, none⟩ (.int .i64 ((z + 1) % 1000))) (.slice (some ⟨g, 0, none⟩) 4 cap) (vals.set j ((z + 1) % 1000))) := Lib.hid (by
        refine ⟨_, cap, by rw [List.length_set, hl4], by rw [List.length_set, hl4]; exact hg4, hgm, ?_⟩
        rw [List.length_set, hl4, List.map_set]
        exact O9.out.rd)
      have HI9 : Hid (∀ q ∈ vals.set j ((z + 1) % 1000), i64in q) := Lib.hid (fun q hq => by
        rcases List.mem_or_eq_of_mem_set hq with h | h
        · exact HI.out q h
        · rw [h]; unfold i64in; omega)
      have B9 := Lib.hid (below_then HB.out O9.out.2)
      have RS9 := Lib.hid (RS7.out.below B9.out)
      have UN9 := Lib.hid ((U7.out.belowF B9.out).any)
      have NM9 := Lib.hid (NM7.out.below B9.out)
      obtain ⟨d0, d1, d2, d3⟩ := BX7.out.below B9.out
      simp only [vt] at d0 d1 d2 d3
      cases hh : hasS (readsR t) nm with
      | true =>
        have HH := Lib.hid hh
        clear hh
        go_wp2_with fail
        refine (laws_hasText _ (readsR t) nm _ RS9.out).mono ?_
        rintro e w10 ⟨rfl, rfl⟩
        rw [HH.out]
        go_wp2_with fail
        go_roundw
        case rel => exact ⟨j + 1, by omega, by go_num, B9⟩
        case measure => simp [intOf]; omega
      | false =>
        have HH := Lib.hid hh
        have HK := Lib.hid (HX.out hh ((z + 1) % 1000))
        have hyy : (y != y) = false := by simp
        clear hh
        go_wp2_with fail
        refine (laws_hasText _ (readsR t) nm _ RS9.out).mono ?_
        rintro e w10 ⟨rfl, rfl⟩
        rw [HH.out]
        go_wp2_with fail
        refine (impl_Worked lawNames (vals.set j ((z + 1) % 1000)) t k1 n1 s1 A1 m1 c1 _ _ _ UN9.out NM9.out OS9.out HI9.out).mono ?_
        rintro e w11 ⟨rfl, b11⟩
        have B11 := Lib.hid (below_then B9.out b11)
        rw [HK.out]
        clear b11
        go_wp2_with fail
        go_roundw
        case rel => exact ⟨j + 1, by omega, by go_num, B11⟩
        case measure => simp [intOf]; omega
    · have hjj : ¬ (j : Int) < 4 := by omega
      obtain ⟨d0, d1, d2, d3⟩ := BX7.out.below HB.out
      simp only [vt] at d0 d1 d2 d3
      go_upto_region 18 with fail
      obtain ⟨ta, ba, la⟩ := mk_one (U7.out.belowF HB.out)
      have TA := Lib.hid ta
      have BA := Lib.hid ba
      have LA := Lib.hid (below_then HB.out la)
      clear ta ba la d0 d1 d2 d3
      generalize (wq.alloc (.cells #[.int .i64 k1, .int .i64 n1, .string s1, .slice A1 m1 c1] 26)).alloc (.cells #[.int .i64 8, .int .i64 0, .string ⟨#[]⟩, .slice (some ⟨wq.heap.size, 0, none⟩) 1 1] 26) = wa at *
      obtain ⟨d0, d1, d2, d3⟩ := BA.out
      simp only [vt] at d0 d1 d2 d3
      go_upto_region 19 with fail
      obtain ⟨ta, ba, la⟩ := mk_one TA.out
      have TB := Lib.hid ta
      have BB := Lib.hid ba
      have TA2 := Lib.hid (TA.out.belowF la)
      have BA2 := Lib.hid (BA.out.below la)
      have LB := Lib.hid (below_then LA.out la)
      clear ta ba la d0 d1 d2 d3 TA BA
      generalize (wa.alloc (.cells #[.int .i64 8, .int .i64 0, .string ⟨#[]⟩, .slice (some ⟨wq.heap.size, 0, none⟩) 1 1] 26)).alloc (.cells #[.int .i64 8, .int .i64 0, .string ⟨#[]⟩, .slice (some ⟨wa.heap.size, 0, none⟩) 1 1] 26) = wb at *
      obtain ⟨d0, d1, d2, d3⟩ := BX7.out.below LB.out
      simp only [vt] at d0 d1 d2 d3
      obtain ⟨r0, r1, r2, r3⟩ := BY7.out.below LB.out
      simp only [vt] at r0 r1 r2 r3
      go_upto_region 20 with fail
      obtain ⟨ta, ba, la⟩ := mk_two (U7.out.belowF LB.out) (V7.out.belowF LB.out)
      have TC := Lib.hid ta
      have BC := Lib.hid ba
      have TA3 := Lib.hid (TA2.out.belowF la)
      have BA3 := Lib.hid (BA2.out.below la)
      have TB3 := Lib.hid (TB.out.belowF la)
      have BB3 := Lib.hid (BB.out.below la)
      have LC := Lib.hid (below_then LB.out la)
      clear ta ba la d0 d1 d2 d3 r0 r1 r2 r3 TA2 BA2 TB BB
      generalize (wb.alloc (.cells #[.int .i64 k1, .int .i64 n1, .string s1, .slice A1 m1 c1, .int .i64 k2, .int .i64 n2, .string s2, .slice A2 m2 c2] 26)).alloc (.cells #[.int .i64 4, .int .i64 0, .string ⟨#[]⟩, .slice (some ⟨wb.heap.size, 0, none⟩) 2 2] 26) = wc at *
      have UC := Lib.hid (U7.out.belowF LC.out)
      have VC := Lib.hid (V7.out.belowF LC.out)
      have NMC := Lib.hid (NM7.out.below LC.out)
      have IVC := Lib.hid (IV7.out.below LC.out)
      have RSC := Lib.hid (RS7.out.below LC.out)
      have BC7 := Lib.hid (BX7.out.below LC.out)
      have BD7 := Lib.hid (BY7.out.below LC.out)
      have BE := Lib.hid (below_then B7.out LC.out)
      have KS : Hid (∀ w', Below wc.heap.size wc w' → Below wc.heap.size wc w' ∧ w'.cell? ⟨w1.heap.size, 0, none⟩ = some (.int .i64 k1) ∧ w'.cell? ⟨w1.heap.size, 1, none⟩ = some (.int .i64 n1) ∧ w'.cell? ⟨w1.heap.size, 2, none⟩ = some (.string s1) ∧ w'.cell? ⟨w1.heap.size, 3, none⟩ = some (.slice A1 m1 c1) ∧ w'.cell? ⟨w2.heap.size, 0, none⟩ = some (.int .i64 k2) ∧ w'.cell? ⟨w2.heap.size, 1, none⟩ = some (.int .i64 n2) ∧ w'.cell? ⟨w2.heap.size, 2, none⟩ = some (.string s2) ∧ w'.cell? ⟨w2.heap.size, 3, none⟩ = some (.slice A2 m2 c2) ∧ w'.cell? ⟨wq.heap.size + 1, 0, none⟩ = some (.int .i64 8) ∧ w'.cell? ⟨wq.heap.size + 1, 1, none⟩ = some (.int .i64 0) ∧ w'.cell? ⟨wq.heap.size + 1, 2, none⟩ = some (.string ⟨#[]⟩) ∧ w'.cell? ⟨wq.heap.size + 1, 3, none⟩ = some (.slice (some ⟨wq.heap.size, 0, none⟩) 1 1) ∧ w'.cell? ⟨wa.heap.size + 1, 0, none⟩ = some (.int .i64 8) ∧ w'.cell? ⟨wa.heap.size + 1, 1, none⟩ = some (.int .i64 0) ∧ w'.cell? ⟨wa.heap.size + 1, 2, none⟩ = some (.string ⟨#[]⟩) ∧ w'.cell? ⟨wa.heap.size + 1, 3, none⟩ = some (.slice (some ⟨wa.heap.size, 0, none⟩) 1 1) ∧ w'.cell? ⟨wb.heap.size + 1, 0, none⟩ = some (.int .i64 4) ∧ w'.cell? ⟨wb.heap.size + 1, 1, none⟩ = some (.int .i64 0) ∧ w'.cell? ⟨wb.heap.size + 1, 2, none⟩ = some (.string ⟨#[]⟩) ∧ w'.cell? ⟨wb.heap.size + 1, 3, none⟩ = some (.slice (some ⟨wb.heap.size, 0, none⟩) 2 2)) := Lib.hid (fun w' hb => by
        obtain ⟨a0, a1, a2, a3⟩ := BC7.out.below hb
        obtain ⟨b0, b1, b2, b3⟩ := BD7.out.below hb
        obtain ⟨c0, c1, c2, c3⟩ := BA3.out.below hb
        obtain ⟨d0, d1, d2, d3⟩ := BB3.out.below hb
        obtain ⟨e0, e1, e2, e3⟩ := BC.out.below hb
        exact ⟨hb, a0, a1, a2, a3, b0, b1, b2, b3, c0, c1, c2, c3, d0, d1, d2, d3, e0, e1, e2, e3⟩)
      obtain ⟨h0y, h9y⟩ := hvt
      have hyy : (y == y) = true := by simp
      have OK5 := Lib.hid (okT_le (r' := 4) (by decide) hok)
      have KWN := Lib.hid (okT_le (r' := 6) (by decide) (okT_not OK5.out))
      have KWT := Lib.hid (okT_not (okT_not OK5.out))
      have KWZ := Lib.hid (okT_le (r' := 6) (by decide) (okT_two (k := 4) (by decide) OK5.out OK5.out))
      have WO : Hid (∀ w', Below wc.heap.size wc w' → Calls Try.prog 10 #[.agg #[.int .i64 k1, .int .i64 n1, .string s1, .slice A1 m1 c1]] w' fun e w'' => e = .returned (.bool true) ∧ Below w'.heap.size w' w'') := Lib.hid (fun w' hb => by
        have := impl_TermOk t _ _ _ _ _ _ w' (TmIs.any (UC.out.belowF hb))
        rw [OK.out] at this
        exact this)
      have WS : Hid (∀ w', Below wc.heap.size wc w' → Calls Try.prog 11 #[.agg #[.int .i64 k2, .int .i64 n2, .string s2, .slice A2 m2 c2], .slice (some ⟨w3.heap.size, 0, none⟩) 4 4, .slice (some ⟨w4.heap.size, 0, none⟩) 4 4] w' fun e w'' => e = .returned (.int .i64 (y)) ∧ Below w'.heap.size w' w'') := Lib.hid (fun w' hb => by
        have := spec_Worked lawNames vals t _ _ _ _ _ _ _ _ w' (TmIs.any (VC.out.belowF hb)) (NMC.out.below hb) (IVC.out.below hb) HI.out
        rw [workK_yes OK.out] at this
        rw [HY.out] at this
        exact this)
      have SR : Hid (∀ w', Below wc.heap.size wc w' → Calls Try.prog 13 #[.agg #[.int .i64 k2, .int .i64 n2, .string s2, .slice A2 m2 c2]] w' fun e w'' => ∃ v', e = .returned v' ∧ OwnStrs w' w'' v' (readsR t)) := Lib.hid (fun w' hb => spec_ReadsOf t _ _ _ _ _ _ w' (TmIs.any (VC.out.belowF hb)) (by omega))
      have SM : Hid (∀ w', Below wc.heap.size wc w' → Calls Try.prog 14 #[.agg #[.int .i64 k1, .int .i64 n1, .string s1, .slice A1 m1 c1], .agg #[.int .i64 k2, .int .i64 n2, .string s2, .slice A2 m2 c2]] w' fun e w'' => e = .returned (.bool true) ∧ Below w'.heap.size w' w'') := Lib.hid (fun w' hb => by
        have := impl_SameTerm t t _ _ _ _ _ _ _ _ _ _ _ _ w' 0 (UC.out.belowF hb) (VC.out.belowF hb)
        rw [sameB_yes rfl] at this
        exact this)
      have VWZ : Hid (valT lawNames vals (.mk 4 0 ByteArray.empty [t, t]) = 0) := Lib.hid (by rw [valT_two (by decide) (by decide)]; exact mod_self _)
      have WZ : Hid (∀ w', Below wc.heap.size wc w' → Calls Try.prog 7 #[.agg #[.int .i64 4, .int .i64 0, .string ⟨#[]⟩, .slice (some ⟨wb.heap.size, 0, none⟩) 2 2], .slice (some ⟨w3.heap.size, 0, none⟩) 4 4, .slice (some ⟨w4.heap.size, 0, none⟩) 4 4] w' fun e w'' => e = .returned (.int .i64 (0)) ∧ Below w'.heap.size w' w'') := Lib.hid (fun w' hb => by
        have := impl_Worked lawNames vals (.mk 4 0 ByteArray.empty [t, t]) _ _ _ _ _ _ _ _ w' (TmIs.any (TC.out.belowF hb)) (NMC.out.below hb) (IVC.out.below hb) HI.out
        rw [workK_yes KWZ.out] at this
        
        rw [VWZ.out] at this; exact this)
      cases hb0 : (y == 0) with
      | false =>
        have VWN : Hid (valT lawNames vals (.mk 8 0 ByteArray.empty [t]) = 0) := Lib.hid (by rw [valT_one, HY.out, hb0]; rfl)
        have VWT : Hid (valT lawNames vals (.mk 8 0 ByteArray.empty [.mk 8 0 ByteArray.empty [t]]) = 1) := Lib.hid (by rw [valT_one, VWN.out]; rfl)
        have WN : Hid (∀ w', Below wc.heap.size wc w' → Calls Try.prog 7 #[.agg #[.int .i64 8, .int .i64 0, .string ⟨#[]⟩, .slice (some ⟨wq.heap.size, 0, none⟩) 1 1], .slice (some ⟨w3.heap.size, 0, none⟩) 4 4, .slice (some ⟨w4.heap.size, 0, none⟩) 4 4] w' fun e w'' => e = .returned (.int .i64 0) ∧ Below w'.heap.size w' w'') := Lib.hid (fun w' hb => by
          have := impl_Worked lawNames vals _ _ _ _ _ _ _ _ _ w' (TmIs.any (TA3.out.belowF hb)) (NMC.out.below hb) (IVC.out.below hb) HI.out
          rw [workK_yes KWN.out] at this
          rw [VWN.out] at this
          exact this)
        have WT : Hid (∀ w', Below wc.heap.size wc w' → Calls Try.prog 7 #[.agg #[.int .i64 8, .int .i64 0, .string ⟨#[]⟩, .slice (some ⟨wa.heap.size, 0, none⟩) 1 1], .slice (some ⟨w3.heap.size, 0, none⟩) 4 4, .slice (some ⟨w4.heap.size, 0, none⟩) 4 4] w' fun e w'' => e = .returned (.int .i64 1) ∧ Below w'.heap.size w' w'') := Lib.hid (fun w' hb => by
          have := impl_Worked lawNames vals _ _ _ _ _ _ _ _ _ w' (TmIs.any (TB3.out.belowF hb)) (NMC.out.below hb) (IVC.out.below hb) HI.out
          rw [workK_yes KWT.out] at this
          rw [VWT.out] at this
          exact this)
        clear VWN VWT KWN KWT KWZ VWZ OK5 HI HV HY UC VC IVC NMC BC7 BD7 TA3 TB3 TC BA3 BB3 BC LC LB LA HB U7 V7 BX7 BY7 NM7 IV7 RS7 B7 UNR
        go_region_held3 (fun w' => Below wc.heap.size wc w' ∧ w'.cell? ⟨w1.heap.size, 0, none⟩ = some (.int .i64 k1) ∧ w'.cell? ⟨w1.heap.size, 1, none⟩ = some (.int .i64 n1) ∧ w'.cell? ⟨w1.heap.size, 2, none⟩ = some (.string s1) ∧ w'.cell? ⟨w1.heap.size, 3, none⟩ = some (.slice A1 m1 c1) ∧ w'.cell? ⟨w2.heap.size, 0, none⟩ = some (.int .i64 k2) ∧ w'.cell? ⟨w2.heap.size, 1, none⟩ = some (.int .i64 n2) ∧ w'.cell? ⟨w2.heap.size, 2, none⟩ = some (.string s2) ∧ w'.cell? ⟨w2.heap.size, 3, none⟩ = some (.slice A2 m2 c2) ∧ w'.cell? ⟨wq.heap.size + 1, 0, none⟩ = some (.int .i64 8) ∧ w'.cell? ⟨wq.heap.size + 1, 1, none⟩ = some (.int .i64 0) ∧ w'.cell? ⟨wq.heap.size + 1, 2, none⟩ = some (.string ⟨#[]⟩) ∧ w'.cell? ⟨wq.heap.size + 1, 3, none⟩ = some (.slice (some ⟨wq.heap.size, 0, none⟩) 1 1) ∧ w'.cell? ⟨wa.heap.size + 1, 0, none⟩ = some (.int .i64 8) ∧ w'.cell? ⟨wa.heap.size + 1, 1, none⟩ = some (.int .i64 0) ∧ w'.cell? ⟨wa.heap.size + 1, 2, none⟩ = some (.string ⟨#[]⟩) ∧ w'.cell? ⟨wa.heap.size + 1, 3, none⟩ = some (.slice (some ⟨wa.heap.size, 0, none⟩) 1 1) ∧ w'.cell? ⟨wb.heap.size + 1, 0, none⟩ = some (.int .i64 4) ∧ w'.cell? ⟨wb.heap.size + 1, 1, none⟩ = some (.int .i64 0) ∧ w'.cell? ⟨wb.heap.size + 1, 2, none⟩ = some (.string ⟨#[]⟩) ∧ w'.cell? ⟨wb.heap.size + 1, 3, none⟩ = some (.slice (some ⟨wb.heap.size, 0, none⟩) 2 2))
          (first | assumption | exact KS.out _ (Below.refl _ _).drew | exact KS.out _ (below_then (by go_split_ands; assumption) bX))
          (first
            | (go_at_call 10; (with_reducible refine (WO.out _ (by go_split_ands; assumption)).mono ?_); rintro e wX ⟨rfl, bX⟩)
            | (go_at_call 11; (with_reducible refine (WS.out _ (by go_split_ands; assumption)).mono ?_); rintro e wX ⟨rfl, bX⟩)
            | (go_at_call 7; (with_reducible refine (WN.out _ (by go_split_ands; assumption)).mono ?_); rintro e wX ⟨rfl, bX⟩)
            | (go_at_call 7; (with_reducible refine (WT.out _ (by go_split_ands; assumption)).mono ?_); rintro e wX ⟨rfl, bX⟩)
            | (go_at_call 7; (with_reducible refine (WZ.out _ (by go_split_ands; assumption)).mono ?_); rintro e wX ⟨rfl, bX⟩)
            | (go_at_call 14; (with_reducible refine (SM.out _ (by go_split_ands; assumption)).mono ?_); rintro e wX ⟨rfl, bX⟩)
            | (go_at_call 13; refine (SR.out _ (by go_split_ands; assumption)).mono ?_; rintro e wX ⟨vX, rfl, oX⟩; have bX := oX.2; have sX := Lib.hid oX.isStrs; obtain ⟨AX, cX, rfl, _⟩ := oX.slice; clear oX)
            | (go_at_call 12; refine (laws_sameTexts _ _ (readsR t) _ (RSC.out.below (by go_split_ands; assumption)) sX.out).mono ?_; rintro e wX ⟨rfl, qX⟩; have bX := qX.below))
        all_goals
          go_wp2_with fail
          go_ret
          exact ⟨rfl, below_then BE.out (by go_split_ands; assumption)⟩
      | true =>
        have VWN : Hid (valT lawNames vals (.mk 8 0 ByteArray.empty [t]) = 1) := Lib.hid (by rw [valT_one, HY.out, hb0]; rfl)
        have VWT : Hid (valT lawNames vals (.mk 8 0 ByteArray.empty [.mk 8 0 ByteArray.empty [t]]) = 0) := Lib.hid (by rw [valT_one, VWN.out]; rfl)
        have WN : Hid (∀ w', Below wc.heap.size wc w' → Calls Try.prog 7 #[.agg #[.int .i64 8, .int .i64 0, .string ⟨#[]⟩, .slice (some ⟨wq.heap.size, 0, none⟩) 1 1], .slice (some ⟨w3.heap.size, 0, none⟩) 4 4, .slice (some ⟨w4.heap.size, 0, none⟩) 4 4] w' fun e w'' => e = .returned (.int .i64 1) ∧ Below w'.heap.size w' w'') := Lib.hid (fun w' hb => by
          have := impl_Worked lawNames vals _ _ _ _ _ _ _ _ _ w' (TmIs.any (TA3.out.belowF hb)) (NMC.out.below hb) (IVC.out.below hb) HI.out
          rw [workK_yes KWN.out] at this
          rw [VWN.out] at this
          exact this)
        have WT : Hid (∀ w', Below wc.heap.size wc w' → Calls Try.prog 7 #[.agg #[.int .i64 8, .int .i64 0, .string ⟨#[]⟩, .slice (some ⟨wa.heap.size, 0, none⟩) 1 1], .slice (some ⟨w3.heap.size, 0, none⟩) 4 4, .slice (some ⟨w4.heap.size, 0, none⟩) 4 4] w' fun e w'' => e = .returned (.int .i64 0) ∧ Below w'.heap.size w' w'') := Lib.hid (fun w' hb => by
          have := impl_Worked lawNames vals _ _ _ _ _ _ _ _ _ w' (TmIs.any (TB3.out.belowF hb)) (NMC.out.below hb) (IVC.out.below hb) HI.out
          rw [workK_yes KWT.out] at this
          rw [VWT.out] at this
          exact this)
        clear VWN VWT KWN KWT KWZ VWZ OK5 HI HV HY UC VC IVC NMC BC7 BD7 TA3 TB3 TC BA3 BB3 BC LC LB LA HB U7 V7 BX7 BY7 NM7 IV7 RS7 B7 UNR
        go_region_held3 (fun w' => Below wc.heap.size wc w' ∧ w'.cell? ⟨w1.heap.size, 0, none⟩ = some (.int .i64 k1) ∧ w'.cell? ⟨w1.heap.size, 1, none⟩ = some (.int .i64 n1) ∧ w'.cell? ⟨w1.heap.size, 2, none⟩ = some (.string s1) ∧ w'.cell? ⟨w1.heap.size, 3, none⟩ = some (.slice A1 m1 c1) ∧ w'.cell? ⟨w2.heap.size, 0, none⟩ = some (.int .i64 k2) ∧ w'.cell? ⟨w2.heap.size, 1, none⟩ = some (.int .i64 n2) ∧ w'.cell? ⟨w2.heap.size, 2, none⟩ = some (.string s2) ∧ w'.cell? ⟨w2.heap.size, 3, none⟩ = some (.slice A2 m2 c2) ∧ w'.cell? ⟨wq.heap.size + 1, 0, none⟩ = some (.int .i64 8) ∧ w'.cell? ⟨wq.heap.size + 1, 1, none⟩ = some (.int .i64 0) ∧ w'.cell? ⟨wq.heap.size + 1, 2, none⟩ = some (.string ⟨#[]⟩) ∧ w'.cell? ⟨wq.heap.size + 1, 3, none⟩ = some (.slice (some ⟨wq.heap.size, 0, none⟩) 1 1) ∧ w'.cell? ⟨wa.heap.size + 1, 0, none⟩ = some (.int .i64 8) ∧ w'.cell? ⟨wa.heap.size + 1, 1, none⟩ = some (.int .i64 0) ∧ w'.cell? ⟨wa.heap.size + 1, 2, none⟩ = some (.string ⟨#[]⟩) ∧ w'.cell? ⟨wa.heap.size + 1, 3, none⟩ = some (.slice (some ⟨wa.heap.size, 0, none⟩) 1 1) ∧ w'.cell? ⟨wb.heap.size + 1, 0, none⟩ = some (.int .i64 4) ∧ w'.cell? ⟨wb.heap.size + 1, 1, none⟩ = some (.int .i64 0) ∧ w'.cell? ⟨wb.heap.size + 1, 2, none⟩ = some (.string ⟨#[]⟩) ∧ w'.cell? ⟨wb.heap.size + 1, 3, none⟩ = some (.slice (some ⟨wb.heap.size, 0, none⟩) 2 2))
          (first | assumption | exact KS.out _ (Below.refl _ _).drew | exact KS.out _ (below_then (by go_split_ands; assumption) bX))
          (first
            | (go_at_call 10; (with_reducible refine (WO.out _ (by go_split_ands; assumption)).mono ?_); rintro e wX ⟨rfl, bX⟩)
            | (go_at_call 11; (with_reducible refine (WS.out _ (by go_split_ands; assumption)).mono ?_); rintro e wX ⟨rfl, bX⟩)
            | (go_at_call 7; (with_reducible refine (WN.out _ (by go_split_ands; assumption)).mono ?_); rintro e wX ⟨rfl, bX⟩)
            | (go_at_call 7; (with_reducible refine (WT.out _ (by go_split_ands; assumption)).mono ?_); rintro e wX ⟨rfl, bX⟩)
            | (go_at_call 7; (with_reducible refine (WZ.out _ (by go_split_ands; assumption)).mono ?_); rintro e wX ⟨rfl, bX⟩)
            | (go_at_call 14; (with_reducible refine (SM.out _ (by go_split_ands; assumption)).mono ?_); rintro e wX ⟨rfl, bX⟩)
            | (go_at_call 13; refine (SR.out _ (by go_split_ands; assumption)).mono ?_; rintro e wX ⟨vX, rfl, oX⟩; have bX := oX.2; have sX := Lib.hid oX.isStrs; obtain ⟨AX, cX, rfl, _⟩ := oX.slice; clear oX)
            | (go_at_call 12; refine (laws_sameTexts _ _ (readsR t) _ (RSC.out.below (by go_split_ands; assumption)) sX.out).mono ?_; rintro e wX ⟨rfl, qX⟩; have bX := qX.below))
        all_goals
          go_wp2_with fail
          go_ret
          exact ⟨rfl, below_then BE.out (by go_split_ands; assumption)⟩
end Go.Proofs.Ytnlinlgmbpdfdaa
