/- Several texts in one: RdNodes, RdSN, DrSz, RtRd. -/
import Derived.Test.YtefcdpkficojgaaDoorKb44
import Derived.Test.YtefcdpkficojgaaDoorKb36
import Derived.Test.YtefcdpkficojgaaDoorKb22
import Derived.Test.YtefcdpkficojgaaDoorKb25
import Derived.Test.YtefcdpkficojgaaDoorKb37
namespace Go.Proofs.YtefcdpkficojgaaDoor
open Go.RowKit
set_option linter.unusedVariables false



/-- nothing may be left behind the statements -/
def endS (L : List Sg) (n : Nat) (g : Got (List St × Nat)) : Got (List St) := g.bind fun b q => if q < L.length then .bad 3 (posAt L n q) else .ok b.1 q
theorem endS_chk (L : List Sg) (n : Nat) (g : Got (List St × Nat)) : endS L n (chkG L n g) = endS L n g := by
  unfold endS chkG
  cases g with
  | bad c p => rfl
  | ok b q =>
    rw [bind_ok, bind_ok]
    split
    · next h => rw [if_pos h.1]; rfl
    · rfl
/-- a text's statements, and its fault -/
def readS (s : ByteArray) : List St × Int × Int :=
  if (lexR s).2.1 = 0 then
    match endS (lexR s).1 s.size (rdS (lexR s).1 s.size 6 0 60) with
    | .bad c p => ([], c, (p : Int))
    | .ok l q => (l, 0, 0)
  else ([], (lexR s).2.1, (lexR s).2.2)
theorem readS_lex {s : ByteArray} (h : ¬ (lexR s).2.1 = 0) : readS s = ([], (lexR s).2.1, (lexR s).2.2) := by unfold readS; rw [if_neg h]
theorem readS_bad {s : ByteArray} {c : Int} {p : Nat} (h : (lexR s).2.1 = 0) (h2 : endS (lexR s).1 s.size (rdS (lexR s).1 s.size 6 0 60) = .bad c p) : readS s = ([], c, (p : Int)) := by unfold readS; rw [if_pos h, h2]
theorem readS_ok {s : ByteArray} {l : List St} {q : Nat} (h : (lexR s).2.1 = 0) (h2 : endS (lexR s).1 s.size (rdS (lexR s).1 s.size 6 0 60) = .ok l q) : readS s = (l, 0, 0) := by unfold readS; rw [if_pos h, h2]

theorem dec_short (k : Nat) : ∀ u, u < 10 ^ (k + 1) → (Lib.decDigits u).length ≤ k + 1 := by
  induction k with
  | zero => intro u h; rw [Lib.decDigits, dif_pos (by simpa using h)]; simp
  | succ k ih =>
    intro u h
    by_cases h1 : u < 10
    · rw [Lib.decDigits, dif_pos h1]; simp
    · rw [Lib.decDigits, dif_neg h1]
      have := ih (u / 10) (by rw [Nat.pow_succ] at h; omega)
      simp only [List.length_append, List.length_cons, List.length_nil]; omega
theorem itoa_ten {n : Int} (h0 : 0 ≤ n) (h1 : n ≤ 1000000000) : (Lib.itoa n).length ≤ 10 := by
  have e : Lib.itoa n = Lib.decDigits n.toNat := by
    unfold Lib.itoa; rw [if_neg (by omega)]
  rw [e]
  have h2 : n.toNat ≤ 1000000000 := by omega
  exact dec_short 9 _ (Nat.lt_of_le_of_lt h2 (by decide))
theorem txt_len2 (r : Nat) : ∀ t, okT r t = true → (txtT t).length + 7 ≤ 19 * 2 ^ r := by
  induction r with
  | zero =>
    intro t h
    obtain ⟨k, n, s, kids⟩ := t
    by_cases h1 : k = 1
    · subst h1
      have hb := okT_num_bd h
      rw [txtT_num]
      have := itoa_ten hb.1 hb.2
      omega
    by_cases h2 : k = 2
    · subst h2
      rw [okT_var, Bool.and_eq_true, Bool.and_eq_true] at h
      rw [txtT_var]
      have := name_len h.1.2
      omega
    rw [okT_zero (by simpa using h1) (by simpa using h2)] at h
    cases h
  | succ r ih =>
    intro t h
    obtain ⟨k, n, s, kids⟩ := t
    have hp : 2 ^ (r + 1) = 2 ^ r + 2 ^ r := by rw [Nat.pow_succ]; omega
    have hpos := Nat.two_pow_pos r
    by_cases h1 : k = 1
    · subst h1
      have hb := okT_num_bd h
      rw [txtT_num]
      have := itoa_ten hb.1 hb.2
      omega
    by_cases h2 : k = 2
    · subst h2
      rw [okT_var, Bool.and_eq_true, Bool.and_eq_true] at h
      rw [txtT_var]
      have := name_len h.1.2
      omega
    obtain ⟨r', he, ⟨rfl, x, rfl, hx⟩ | ⟨hk, x, y, rfl, hx, hy⟩⟩ := okT_kids h1 h2 h
    · have : r' = r := by omega
      subst this
      have := ih x hx
      rw [txtT_one]
      simp only [List.length_append, List.length_cons, List.length_nil]; omega
    · have : r' = r := by omega
      subst this
      have := ih x hx
      have := ih y hy
      have := signK_len k
      rw [txtT_two h1 h2 (by omega)]
      simp only [List.length_append, List.length_cons, List.length_nil]; omega
mutual
/-- the terms in it are at most two deep -/
def t2G : St → Prop | .mk k s t b e => ((k = 1 ∨ k = 2 ∨ k = 3) → okT 2 t = true) ∧ t2Gs b ∧ t2Gs e
def t2Gs : List St → Prop | [] => True | g :: r => t2G g ∧ t2Gs r
end
theorem t2Gs_all {l : List St} (h : ∀ g ∈ l, t2G g) : t2Gs l := by
  induction l with
  | nil => rw [t2Gs]; trivial
  | cons g r ih => rw [t2Gs]; exact ⟨h g (by simp), ih fun x hx => h x (by simp [hx])⟩
theorem t2_flat {k : Int} {s : ByteArray} {t : Tm} (h : (k = 1 ∨ k = 2 ∨ k = 3) → okT 2 t = true) : t2G (.mk k s t [] []) := by
  rw [t2G, t2Gs]; exact ⟨h, trivial, trivial⟩
theorem flatS_t2 (code : List UInt8) (x : Int) (k : Cur) : t2G (flatS code x k).1 := by
  unfold flatS setS wordS skipS
  split
  · exact t2_flat fun _ => termD_ok code 2 _
  split
  · exact t2_flat fun h => absurd h (by omega)
  split
  · exact t2_flat fun h => absurd h (by omega)
  split
  · exact t2_flat fun h => absurd h (by omega)
  split
  · exact t2_flat fun h => absurd h (by omega)
  · exact t2_flat fun h => absurd h (by omega)
theorem stS_t2 (code : List UInt8) (d : Nat) : ∀ k, t2G (stS code d k).1 := by
  induction d with
  | zero => intro k; rw [stS]; exact flatS_t2 _ _ _
  | succ d ih =>
    intro k
    have hl : ∀ k, t2Gs (lstS code (stS code d) k).1 := fun k => t2Gs_all (lstS_all (P := fun g => t2G g) ih k)
    rw [stS]
    split
    · exact flatS_t2 _ _ _
    split
    · unfold whileS
      rw [t2G, t2Gs]
      exact ⟨fun _ => okT_le (by decide) (termD_ok code 1 _), hl _, trivial⟩
    · unfold ifS
      split
      · rw [t2G]; exact ⟨fun _ => okT_le (by decide) (termD_ok code 1 _), hl _, hl _⟩
      · rw [t2G, t2Gs]; exact ⟨fun _ => okT_le (by decide) (termD_ok code 1 _), hl _, trivial⟩
theorem drawn_t2 (code : List UInt8) : t2Gs (drawnS code) := by
  unfold drawnS
  split
  · exact t2Gs_all (lstS_all (P := fun g => t2G g) (stS_t2 code 3) _)
  · rw [t2Gs, t2Gs]; exact ⟨t2_flat fun h => absurd h (by omega), trivial⟩
mutual
theorem txtG_short : (g : St) → ∀ {d ah : Nat}, rightG d g = true → t2G g → ah + d ≤ 3 → (txtG ah g).length ≤ 99 * snodes g
  | .mk k s t b e, d, ah, hr, h2, hd => by
    have hs := right_shape hr
    have hk := shape_kind hs
    have h4 := blanksL_len ah
    have hw := wdL_len k
    rw [t2G] at h2
    by_cases hm : k = 2 ∨ k = 3
    · obtain ⟨ht, d', rfl, hb, he⟩ := right_many hm hr
      have h1 := txtGs_short b (ah := ah + 1) hb h2.2.1 (by omega)
      have h3 := txtGs_short e (ah := ah + 1) he h2.2.2 (by omega)
      have ht2 := txt_len2 2 t (h2.1 (by omega))
      rw [txtG_m hm, snodes, elseL]
      split
      all_goals
        simp only [List.length_append, List.length_cons, List.length_nil, h4]
        omega
    by_cases h1 : k = 1
    · subst h1
      obtain ⟨hn, ht, rfl, rfl⟩ := shape_1 hs
      have ht2 := txt_len2 2 t (h2.1 (by omega))
      have h5 := name_len hn
      rw [txtG_1, snodes]
      simp only [List.length_append, List.length_cons, List.length_nil, h4]
      omega
    by_cases h8 : k = 8
    · subst h8
      rw [txtG_8, snodes]
      simp only [List.length_append, List.length_cons, List.length_nil, h4]
      omega
    have hkw : k = 4 ∨ k = 5 ∨ k = 6 ∨ k = 7 := by omega
    obtain ⟨hn, rfl, rfl⟩ := shape_w hkw hs
    have h5 := name_len hn
    rw [txtG_w hkw, snodes]
    simp only [List.length_append, List.length_cons, List.length_nil, h4]
    omega
theorem txtGs_short : (l : List St) → ∀ {d ah : Nat}, rightGs d l = true → t2Gs l → ah + d ≤ 3 → (txtGs ah l).length ≤ 99 * snodess l
  | [], _, _, _, _, _ => by simp [txtGs]
  | g :: r, d, ah, hr, h2, hd => by
    rw [rightGs, Bool.and_eq_true] at hr
    rw [t2Gs] at h2
    have h1 := txtG_short g (ah := ah) hr.1 h2.1 hd
    have h3 := txtGs_short r (ah := ah) hr.2 h2.2 hd
    rw [txtGs, snodess, List.length_append]
    omega
end
theorem drawn_short (code : List UInt8) : (txtGs 0 (drawnS code)).length ≤ 5940 := by
  have h1 := txtGs_short (drawnS code) (ah := 0) (drawn_right code) (drawn_t2 code) (by omega)
  have h2 := drawn_many code
  omega

theorem kt_at {L : List Sg} {ks : List (Int × ByteArray)} (h : L.map kt = ks) : AtK L 0 ks := ⟨[], by rw [List.drop_zero, h]; simp⟩
theorem kt_at2 {L : List Sg} {g : Sg} {ks : List (Int × ByteArray)} (h : L.map kt = ks) : AtK (L ++ [g]) 0 ks := ⟨[kt g], by rw [List.drop_zero, List.map_append, h]; rfl⟩
theorem kt_len {L : List Sg} {ks : List (Int × ByteArray)} (h : L.map kt = ks) : ks.length = L.length := by rw [← h, List.length_map]
/-- a term's text -/
theorem term_back {t : Tm} (h : okT 3 t = true) : readT ⟨(txtT t).toArray⟩ = (t, 0, 0) := by
  have hl := lex_alone h
  have hk := sgn_kt 3 t h 0
  have hp := rdT_parse (sgnT t 0) (⟨(txtT t).toArray⟩ : ByteArray).size 6 t (okT_le (by decide) h) 0 (kt_at hk)
  have hn := kt_len hk
  refine readT_ok (q := 0 + (ktT t).length) (by rw [hl]) (by rw [hl]; exact hp) ?_
  rw [hl]
  simp only
  omega
theorem term_more {t : Tm} (h : okT 3 t = true) : (readT ⟨(txtT t ++ [32, 41]).toArray⟩).2 = (3, (((txtT t).length + 1 : Nat) : Int)) := by
  have hl := lex_shut h
  have hk := sgn_kt 3 t h 0
  have hn := kt_len hk
  have hp := rdT_parse (sgnT t 0 ++ [⟨3, ⟨#[41]⟩, (txtT t).length + 1⟩]) (⟨(txtT t ++ [32, 41]).toArray⟩ : ByteArray).size 6 t (okT_le (by decide) h) 0 (kt_at2 hk)
  rw [readT_more (q := 0 + (ktT t).length) (by rw [hl]) (by rw [hl]; exact hp) (by rw [hl]; simp only [List.length_append, List.length_cons, List.length_nil]; omega)]
  rw [hl]
  simp only
  have hq : 0 + (ktT t).length < (sgnT t 0 ++ [(⟨3, ⟨#[41]⟩, (txtT t).length + 1⟩ : Sg)]).length := by simp only [List.length_append, List.length_cons, List.length_nil]; omega
  rw [posAt_lt hq]
  have he : (sgnT t 0 ++ [(⟨3, ⟨#[41]⟩, (txtT t).length + 1⟩ : Sg)])[0 + (ktT t).length] = ⟨3, ⟨#[41]⟩, (txtT t).length + 1⟩ := by
    simp [hn]
  rw [he]
theorem stmts_lex {l : List St} {d ah : Nat} (h : rightGs d l = true) (hs : (txtGs ah l).length ≤ 6000) : ∃ L, lexR ⟨(txtGs ah l).toArray⟩ = (L, 0, 0) ∧ L.map kt = ktGs l := by
  obtain ⟨L, e, hk⟩ := lex_stmts l (ah := ah) h ⟨(txtGs ah l).toArray⟩ 0 [] [] (by simp)
  refine ⟨L, ?_, hk⟩
  rw [lexR_short (by rw [str_size]; omega), e, lex_end (by simp)]
  simp
theorem stmts_lex2 {l : List St} {d ah : Nat} (h : rightGs d l = true) (hs : (txtGs ah l).length + 1 ≤ 6000) : ∃ L, lexR ⟨(txtGs ah l ++ [125]).toArray⟩ = (L ++ [⟨3, ⟨#[125]⟩, (txtGs ah l).length⟩], 0, 0) ∧ L.map kt = ktGs l := by
  obtain ⟨L, e, hk⟩ := lex_stmts l (ah := ah) h ⟨(txtGs ah l ++ [125]).toArray⟩ 0 [125] [] (by simp)
  refine ⟨L, ?_, hk⟩
  have h0 : (⟨(txtGs ah l ++ [125]).toArray⟩ : ByteArray).data.toList.drop 0 = txtGs ah l ++ [125] := by simp
  have h1 := drop_more h0
  have h3 : (⟨(txtGs ah l ++ [125]).toArray⟩ : ByteArray).data.toList.drop (0 + (txtGs ah l).length + ([125] : List UInt8).length) = [] := drop_one h1
  rw [lexR_short (by rw [str_size, List.length_append]; simp; omega), e, lex_tok (x := [125]) (rest := []) h1 tok_rb ⟨fun _ => offW_nil, fun e => by cases e⟩, lex_end h3]
  simp
theorem stmts_back {l : List St} {ah : Nat} (h : rightGs 6 l = true) (hm : snodess l ≤ 60) (hs : (txtGs ah l).length ≤ 6000) : readS ⟨(txtGs ah l).toArray⟩ = (l, 0, 0) := by
  obtain ⟨L, hl, hk⟩ := stmts_lex h hs
  have hn := kt_len hk
  have hx : tx L (0 + (ktGs l).length) = ⟨#[]⟩ := tx_ge (by omega)
  have hp := rds_ok L (⟨(txtGs ah l).toArray⟩ : ByteArray).size l 6 0 60 h (Nat.le_refl _) (kt_at hk) (by
    rcases Int.decEq (wordOf L (0 + (ktGs l).length)) 0 with hw | hw
    · have := wordOf_lt hw; omega
    · exact hw) (by rw [hx]; decide) hm
  refine readS_ok (q := 0 + (ktGs l).length) (by rw [hl]) ?_
  rw [hl]
  simp only
  rw [hp, endS, bind_ok, if_neg (by omega)]
theorem stmts_more {l : List St} {ah : Nat} (h : rightGs 6 l = true) (hm : snodess l ≤ 60) (hs : (txtGs ah l).length + 1 ≤ 6000) : (readS ⟨(txtGs ah l ++ [125]).toArray⟩).2 = (3, ((txtGs ah l).length : Int)) := by
  obtain ⟨L, hl, hk⟩ := stmts_lex2 h hs
  have hn := kt_len hk
  have hlt : 0 + (ktGs l).length < (L ++ [(⟨3, ⟨#[125]⟩, (txtGs ah l).length⟩ : Sg)]).length := by simp only [List.length_append, List.length_cons, List.length_nil]; omega
  have he : (L ++ [(⟨3, ⟨#[125]⟩, (txtGs ah l).length⟩ : Sg)])[0 + (ktGs l).length] = ⟨3, ⟨#[125]⟩, (txtGs ah l).length⟩ := by simp [hn]
  have hx : tx (L ++ [⟨3, ⟨#[125]⟩, (txtGs ah l).length⟩]) (0 + (ktGs l).length) = ⟨#[125]⟩ := by rw [tx_lt hlt, he]
  have hp := rds_ok (L ++ [⟨3, ⟨#[125]⟩, (txtGs ah l).length⟩]) (⟨(txtGs ah l ++ [125]).toArray⟩ : ByteArray).size l 6 0 60 h (Nat.le_refl _) (kt_at2 hk) (rb_word hx) (by rw [hx]; decide) hm
  rw [readS_bad (c := 3) (p := (txtGs ah l).length) (by rw [hl]) (by rw [hl]; simp only; rw [hp, endS, bind_ok, if_pos hlt, posAt_lt hlt, he])]
end Go.Proofs.YtefcdpkficojgaaDoor
