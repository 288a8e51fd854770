/- Several texts in one: RtSt. -/
import Derived.Test.YtefcdpkficojgaaDoorKb36
import Derived.Test.YtefcdpkficojgaaDoorKb25
namespace Go.Proofs.YtefcdpkficojgaaDoor
open Go.RowKit
set_option linter.unusedVariables false


mutual
def ktG : St → List (Int × ByteArray)
  | .mk k s t b e =>
    if k = 1 then [(1, s), (3, ⟨#[61]⟩)] ++ ktT t ++ [(3, ⟨#[59]⟩)]
    else if k = 2 ∨ k = 3 then [(1, wdB k)] ++ ktT t ++ [(3, ⟨#[123]⟩)] ++ ktGs b ++ [(3, ⟨#[125]⟩)] ++ (if e.length = 0 then [] else [(1, tElse), (3, ⟨#[123]⟩)] ++ ktGs e ++ [(3, ⟨#[125]⟩)])
    else if k = 8 then [(1, wdB 8), (3, ⟨#[59]⟩)]
    else [(1, wdB k), (1, s), (3, ⟨#[59]⟩)]
def ktGs : List St → List (Int × ByteArray)
  | [] => []
  | g :: r => ktG g ++ ktGs r
end
theorem ktG_1 {s : ByteArray} {t : Tm} {b e : List St} : ktG (.mk 1 s t b e) = [(1, s), (3, ⟨#[61]⟩)] ++ ktT t ++ [(3, ⟨#[59]⟩)] := by rw [ktG, if_pos rfl]
theorem ktG_m {k : Int} {s : ByteArray} {t : Tm} {b e : List St} (hk : k = 2 ∨ k = 3) : ktG (.mk k s t b e) = [(1, wdB k)] ++ ktT t ++ [(3, ⟨#[123]⟩)] ++ ktGs b ++ [(3, ⟨#[125]⟩)] ++ (if e.length = 0 then [] else [(1, tElse), (3, ⟨#[123]⟩)] ++ ktGs e ++ [(3, ⟨#[125]⟩)]) := by rw [ktG, if_neg (by omega), if_pos hk]
theorem ktG_8 {s : ByteArray} {t : Tm} {b e : List St} : ktG (.mk 8 s t b e) = [(1, wdB 8), (3, ⟨#[59]⟩)] := by rw [ktG, if_neg (by omega), if_neg (by omega), if_pos rfl]
theorem ktG_w {k : Int} {s : ByteArray} {t : Tm} {b e : List St} (hk : k = 4 ∨ k = 5 ∨ k = 6 ∨ k = 7) : ktG (.mk k s t b e) = [(1, wdB k), (1, s), (3, ⟨#[59]⟩)] := by rw [ktG, if_neg (by omega), if_neg (by omega), if_neg (by omega)]
/-- lexing: blanks, words -/
theorem lex_blanks {s : ByteArray} {acc : List Sg} (n : Nat) : ∀ {i : Nat} {rest : List UInt8}, s.data.toList.drop i = blanksL n ++ rest → lexS s i acc = lexS s (i + n) acc := by
  induction n with
  | zero => intro i rest _; rfl
  | succ n ih =>
    intro i rest hd
    have hd' : s.data.toList.drop i = 32 :: (blanksL n ++ rest) := by rw [hd, blanksL, List.replicate_succ]; rfl
    rw [lex_blank hd' rfl, ih (drop_one hd')]
    congr 1; omega
theorem wd_tok {k : Int} (hk : 2 ≤ k ∧ k ≤ 8) : Tok 1 (wdL k) := by
  have : k = 2 ∨ k = 3 ∨ k = 4 ∨ k = 5 ∨ k = 6 ∨ k = 7 ∨ k = 8 := by omega
  rcases this with rfl | rfl | rfl | rfl | rfl | rfl | rfl <;> exact tok_word (by decide)
theorem wd_lit (k : Int) : (⟨(wdL k).toArray⟩ : ByteArray) = wdB k := by unfold wdL; simp
theorem wd_no61 (k : Int) : ¬ wdL k = [61] := by
  unfold wdL wdB
  repeat' split
  all_goals decide
theorem name_lit (s : ByteArray) : (⟨s.data.toList.toArray⟩ : ByteArray) = s := by simp
theorem name_no61 {s : ByteArray} (h : isNameL s.data.toList = true) : ¬ s.data.toList = [61] := fun e => by rw [e] at h; exact absurd h (by decide)
theorem tok_eq : Tok 3 [61] := .inr (.inr ⟨rfl, by decide⟩)
theorem tok_semi : Tok 3 [59] := .inr (.inr ⟨rfl, by decide⟩)
theorem tok_lb : Tok 3 [123] := .inr (.inr ⟨rfl, by decide⟩)
theorem tok_rb : Tok 3 [125] := .inr (.inr ⟨rfl, by decide⟩)
theorem tok_else : Tok 1 [101, 108, 115, 101] := tok_word (by decide)
/-- a sign that no blank need follow -/
theorem sep_any {x : List UInt8} {rest : List UInt8} (h : ¬ x = [61]) : Sep 3 x rest := ⟨fun e => absurd rfl e, fun e => absurd e h⟩
theorem sep_off {k : Int} {x : List UInt8} {rest : List UInt8} (h : offW rest) (h2 : ¬ x = [61]) : Sep k x rest := ⟨fun _ => h, fun e => absurd e h2⟩
/-- what lexing a statement's lines adds -/
def LexTo (x : List UInt8) (ks : List (Int × ByteArray)) : Prop := ∀ (s : ByteArray) (i : Nat) (rest : List UInt8) (acc : List Sg), s.data.toList.drop i = x ++ rest → ∃ l, lexS s i acc = lexS s (i + x.length) (acc ++ l) ∧ l.map kt = ks
theorem LexTo.nil : LexTo [] [] := fun s i rest acc _ => ⟨[], by simp, rfl⟩
theorem LexTo.app {x y : List UInt8} {a b : List (Int × ByteArray)} (h : LexTo x a) (k : LexTo y b) : LexTo (x ++ y) (a ++ b) := by
  intro s i rest acc hd
  rw [List.append_assoc] at hd
  obtain ⟨l1, e1, k1⟩ := h s i (y ++ rest) acc hd
  obtain ⟨l2, e2, k2⟩ := k s (i + x.length) rest (acc ++ l1) (drop_more hd)
  refine ⟨l1 ++ l2, ?_, by rw [List.map_append, k1, k2]⟩
  rw [e1, e2, List.length_append, List.append_assoc, Nat.add_assoc]
theorem LexTo.blank {c : UInt8} (hb : blankB c = true) : LexTo [c] [] := by
  intro s i rest acc hd
  exact ⟨[], by rw [lex_blank (rest := rest) hd hb]; simp, rfl⟩
theorem LexTo.blanks (n : Nat) : LexTo (blanksL n) [] := by
  intro s i rest acc hd
  exact ⟨[], by rw [lex_blanks n hd, blanksL_len]; simp, rfl⟩
theorem LexTo.mark {x : List UInt8} (t : Tok 3 x) (h : ¬ x = [61]) : LexTo x [(3, ⟨x.toArray⟩)] := by
  intro s i rest acc hd
  exact ⟨[⟨3, ⟨x.toArray⟩, i⟩], lex_tok hd t (sep_any h), rfl⟩
/-- a sign and a byte behind it that is none of a word -/
theorem LexTo.sign {k : Int} {x : List UInt8} {c : UInt8} (t : Tok k x) (hb : blankB c = true) (hc : okC c = false) (h61 : c.toNat ≠ 61) : LexTo (x ++ [c]) [(k, ⟨x.toArray⟩)] := by
  intro s i rest acc hd
  rw [List.append_assoc] at hd
  refine ⟨[⟨k, ⟨x.toArray⟩, i⟩], ?_, rfl⟩
  rw [lex_tok hd t ⟨fun _ => offW_cons hc, fun _ => offE_cons h61⟩, lex_blank (rest := rest) (drop_more hd) hb, List.length_append]
  simp [Nat.add_assoc]
theorem LexTo.word {k : Int} {x : List UInt8} (t : Tok k x) (h61 : ¬ x = [61]) : LexTo (x ++ [59]) [(k, ⟨x.toArray⟩), (3, ⟨#[59]⟩)] := by
  intro s i rest acc hd
  rw [List.append_assoc] at hd
  have hd2 := drop_more hd
  refine ⟨[⟨k, ⟨x.toArray⟩, i⟩, ⟨3, ⟨#[59]⟩, i + x.length⟩], ?_, rfl⟩
  rw [lex_tok hd t (sep_off (offW_cons (by decide)) h61), lex_tok (x := [59]) (rest := rest) hd2 tok_semi (sep_any (by decide)), List.length_append]
  simp [Nat.add_assoc]
theorem LexTo.term {t : Tm} (h : okT 6 t = true) {c : UInt8} (hc : okC c = false) {y : List UInt8} {b : List (Int × ByteArray)} (k : LexTo (c :: y) b) : LexTo (txtT t ++ (c :: y)) (ktT t ++ b) := by
  intro s i rest acc hd
  rw [List.append_assoc] at hd
  obtain ⟨l2, e2, k2⟩ := k s (i + (txtT t).length) rest (acc ++ sgnT t i) (drop_more hd)
  refine ⟨sgnT t i ++ l2, ?_, by rw [List.map_append, k2, sgn_kt 6 t h]⟩
  rw [lex_term 6 t h hd (offW_cons hc), e2, List.length_append, List.append_assoc, Nat.add_assoc]
theorem LexTo.congr {x x' : List UInt8} {a a' : List (Int × ByteArray)} (h : LexTo x a) (ex : x' = x) (ea : a' = a) : LexTo x' a' := by subst ex ea; exact h
mutual
theorem lex_stmt : (g : St) → ∀ {d ah : Nat}, rightG d g = true → LexTo (txtG ah g) (ktG g)
  | .mk k s t b e, d, ah, hr => by
    have hs := right_shape hr
    have hk := shape_kind hs
    by_cases hm : k = 2 ∨ k = 3
    · obtain ⟨ht, d', rfl, hb, he⟩ := right_many hm hr
      have h1 := lex_stmts b (ah := ah + 1) hb
      have h2 := lex_stmts e (ah := ah + 1) he
      have w1 := LexTo.sign (c := 32) (wd_tok (k := k) (by omega)) rfl rfl (by decide)
      rw [wd_lit] at w1
      have body := (LexTo.mark tok_lb (by decide)).app ((LexTo.blank (c := 10) rfl).app (h1.app ((LexTo.blanks ah).app (LexTo.mark tok_rb (by decide)))))
      have t1 := LexTo.term ht (c := 32) rfl ((LexTo.blank (c := 32) rfl).app body)
      rw [txtG_m hm, ktG_m hm, elseL]
      split
      · exact ((LexTo.blanks ah).app (w1.app (t1.app (LexTo.blank (c := 10) rfl)))).congr (by simp) (by simp)
      · have els := (LexTo.blank (c := 32) rfl).app ((LexTo.sign (c := 32) tok_else rfl rfl (by decide)).app ((LexTo.mark tok_lb (by decide)).app ((LexTo.blank (c := 10) rfl).app (h2.app ((LexTo.blanks ah).app (LexTo.mark tok_rb (by decide)))))))
        exact ((LexTo.blanks ah).app (w1.app (t1.app (els.app (LexTo.blank (c := 10) rfl))))).congr (by simp) (by simp [tElse])
    by_cases h1 : k = 1
    · subst h1
      obtain ⟨hn, ht, rfl, rfl⟩ := shape_1 hs
      have w1 := LexTo.sign (c := 32) (tok_name hn) rfl rfl (by decide)
      rw [name_lit] at w1
      have w2 := LexTo.sign (c := 32) tok_eq rfl rfl (by decide)
      have t1 := LexTo.term ht (c := 59) rfl (LexTo.mark tok_semi (by decide))
      rw [txtG_1, ktG_1]
      exact ((LexTo.blanks ah).app (w1.app (w2.app (t1.app (LexTo.blank (c := 10) rfl))))).congr (by simp) (by simp)
    by_cases h8 : k = 8
    · subst h8
      have w1 := LexTo.word (wd_tok (k := 8) (by omega)) (wd_no61 8)
      rw [wd_lit] at w1
      rw [txtG_8, ktG_8]
      exact ((LexTo.blanks ah).app (w1.app (LexTo.blank (c := 10) rfl))).congr (by simp [wdL, wdB]) (by simp)
    have hkw : k = 4 ∨ k = 5 ∨ k = 6 ∨ k = 7 := by omega
    obtain ⟨hn, rfl, rfl⟩ := shape_w hkw hs
    have w1 := LexTo.sign (c := 32) (wd_tok (k := k) (by omega)) rfl rfl (by decide)
    rw [wd_lit] at w1
    have w2 := LexTo.word (tok_name hn) (name_no61 hn)
    rw [name_lit] at w2
    rw [txtG_w hkw, ktG_w hkw]
    exact ((LexTo.blanks ah).app (w1.app (w2.app (LexTo.blank (c := 10) rfl)))).congr (by simp) (by simp)
theorem lex_stmts : (l : List St) → ∀ {d ah : Nat}, rightGs d l = true → LexTo (txtGs ah l) (ktGs l)
  | [], _, _, _ => by rw [txtGs, ktGs]; exact LexTo.nil
  | g :: r, d, ah, hr => by
    rw [rightGs, Bool.and_eq_true] at hr
    rw [txtGs, ktGs]
    exact (lex_stmt g hr.1).app (lex_stmts r hr.2)
end
/- reading them -/
theorem wordOf_wd {L : List Sg} {i : Nat} {k : Int} (hk : 2 ≤ k ∧ k ≤ 8) (h : tx L i = wdB k) : wordOf L i = k := by
  have hc : k = 2 ∨ k = 3 ∨ k = 4 ∨ k = 5 ∨ k = 6 ∨ k = 7 ∨ k = 8 := by omega
  unfold wordOf
  rw [h]
  clear h hk
  generalize nmB L i = b
  rcases hc with rfl | rfl | rfl | rfl | rfl | rfl | rfl
  all_goals
    revert b
    decide
theorem name_word {L : List Sg} {i : Nat} {s : ByteArray} (hn : isNameL s.data.toList = true) (h : tx L i = s) : wordOf L i = 1 := by
  have key : ∀ l : List UInt8, isNameL l = false → ¬ s = ⟨l.toArray⟩ := fun l hl e => by rw [e] at hn; simp at hn; rw [hn] at hl; cases hl
  unfold wordOf
  rw [nmB_of h, hn, h]
  have k1 : ¬ s = tIf := key [105, 102] (by decide)
  have k2 : ¬ s = tWhile := key [119, 104, 105, 108, 101] (by decide)
  have k3 : ¬ s = tCall := key [99, 97, 108, 108] (by decide)
  have k4 : ¬ s = tSpawn := key [115, 112, 97, 119, 110] (by decide)
  have k5 : ¬ s = tLock := key [108, 111, 99, 107] (by decide)
  have k6 : ¬ s = tUnlock := key [117, 110, 108, 111, 99, 107] (by decide)
  have k7 : ¬ s = tSkip := key [115, 107, 105, 112] (by decide)
  rw [if_neg k1, if_neg k2, if_neg k3, if_neg k4, if_neg k5, if_neg k6, if_neg k7, if_pos rfl]
theorem rb_word {L : List Sg} {i : Nat} (h : tx L i = ⟨#[125]⟩) : wordOf L i = 0 := by
  unfold wordOf
  rw [nmB_of h, h]
  decide
theorem wd_else {k : Int} (hk : 2 ≤ k ∧ k ≤ 8) : ¬ wdB k = tElse := by
  have hc : k = 2 ∨ k = 3 ∨ k = 4 ∨ k = 5 ∨ k = 6 ∨ k = 7 ∨ k = 8 := by omega
  rcases hc with rfl | rfl | rfl | rfl | rfl | rfl | rfl <;> decide
/-- the first sign of a statement -/
theorem ktG_head {d : Nat} {k : Int} {s : ByteArray} {t : Tm} {b e : List St} (hr : rightG d (.mk k s t b e) = true) : ∃ x rest, ktG (.mk k s t b e) = (1, x) :: rest ∧ ¬ x = tElse ∧ ∀ L i, tx L i = x → wordOf L i = k := by
  have hs := right_shape hr
  have hk := shape_kind hs
  by_cases h1 : k = 1
  · subst h1
    obtain ⟨hn, _⟩ := shape_1 hs
    exact ⟨s, _, by rw [ktG_1]; rfl, fun e => by rw [e] at hn; exact absurd hn (by decide), fun L i h => name_word hn h⟩
  refine ⟨wdB k, ?_⟩
  by_cases hm : k = 2 ∨ k = 3
  · exact ⟨_, by rw [ktG_m hm]; rfl, wd_else (by omega), fun L i h => wordOf_wd (by omega) h⟩
  by_cases h8 : k = 8
  · subst h8
    exact ⟨_, ktG_8, wd_else (by omega), fun L i h => wordOf_wd (by omega) h⟩
  · exact ⟨_, ktG_w (by omega), wd_else (by omega), fun L i h => wordOf_wd (by omega) h⟩
theorem shape_z {k : Int} {s : ByteArray} {t : Tm} {b e : List St} (h : shapeG (.mk k s t b e) = true) : ((k = 2 ∨ k = 3) → s = ⟨#[]⟩) ∧ (k = 8 → s = ⟨#[]⟩ ∧ t = zTm) ∧ ((k = 4 ∨ k = 5 ∨ k = 6 ∨ k = 7) → t = zTm) := by
  rw [shapeG, shapeB] at h
  refine ⟨fun hk => ?_, fun hk => ?_, fun hk => ?_⟩
  · rcases hk with rfl | rfl
    · rw [if_neg (by decide), if_pos rfl] at h
      simp only [Bool.and_eq_true] at h
      exact empty_of h.1
    · rw [if_neg (by decide), if_neg (by decide), if_pos rfl] at h
      simp only [Bool.and_eq_true] at h
      exact empty_of h.1.1
  · subst hk
    rw [if_neg (by decide), if_neg (by decide), if_neg (by decide), if_neg (by decide), if_pos rfl] at h
    simp only [Bool.and_eq_true] at h
    exact ⟨empty_of h.1.1.1, sameB_true h.1.1.2⟩
  · rw [if_neg (by omega), if_neg (by omega), if_neg (by omega), if_pos hk] at h
    simp only [Bool.and_eq_true] at h
    exact sameB_true h.1.1.2
/-- what reading these statements comes to -/
def RdsOk (L : List Sg) (n : Nat) (l : List St) : Prop := ∀ room i left, rightGs room l = true → room ≤ 6 → AtK L i (ktGs l) → wordOf L (i + (ktGs l).length) = 0 → ¬ tx L (i + (ktGs l).length) = tElse → snodess l ≤ left → rdS L n room i left = .ok (l, left - snodess l) (i + (ktGs l).length)
theorem blk_parse {L : List Sg} {n : Nat} {l : List St} (ih : RdsOk L n l) {room i left : Nat} (hr : rightGs room l = true) (h6 : room ≤ 6) (ha : AtK L i ([(3, ⟨#[123]⟩)] ++ ktGs l ++ [(3, ⟨#[125]⟩)])) (hl : snodess l ≤ left) :
    blkG L n (rdS L n room) i left = .ok (l, left - snodess l) (i + 1 + (ktGs l).length + 1) := by
  rw [List.append_assoc] at ha
  obtain ⟨_, _, h1⟩ := ha.one
  have h2 : AtK L (i + 1) (ktGs l ++ [(3, ⟨#[125]⟩)]) := ha.next
  obtain ⟨_, _, h3⟩ := h2.right.one
  unfold blkG
  rw [tk_ok h1, bind_ok, ih room (i + 1) left hr h6 h2.left (rb_word h3) (by rw [h3]; decide) hl, bind_ok, tk_ok h3, bind_ok]
theorem rd_one {L : List Sg} {n : Nat} {k : Int} {s : ByteArray} {t : Tm} {b e : List St} (ib : RdsOk L n b) (ie : RdsOk L n e) {room i left : Nat} (hr : rightG (room + 1) (.mk k s t b e) = true) (h6 : room + 1 ≤ 6) (ha : AtK L i (ktG (.mk k s t b e))) (hn : ¬ tx L (i + (ktG (.mk k s t b e)).length) = tElse) (hl : snodess b + snodess e ≤ left) :
    oneG L n (rdS L n room) k i left = .ok (.mk k s t b e, left - snodess b - snodess e) (i + (ktG (.mk k s t b e)).length) := by
  have hs := right_shape hr
  have hk := shape_kind hs
  have hz := shape_z hs
  by_cases hm : k = 2 ∨ k = 3
  · obtain ⟨ht, d', hd, hb, he⟩ := right_many hm hr
    have hd2 : d' = room := by omega
    subst hd2
    have hse := hz.1 hm
    subst hse
    unfold oneG
    rw [if_pos hm]
    unfold nesG
    rw [ktG_m hm] at ha hn ⊢
    simp only [List.append_assoc] at ha
    have h1 : AtK L (i + 1) (ktT t ++ ([(3, ⟨#[123]⟩)] ++ (ktGs b ++ ([(3, ⟨#[125]⟩)] ++ (if e.length = 0 then [] else [(1, tElse), (3, ⟨#[123]⟩)] ++ (ktGs e ++ [(3, ⟨#[125]⟩)])))))) := ha.next
    rw [rdT_parse L n 6 t ht (i + 1) h1.left, bind_ok]
    have h2 := h1.right
    have hB : AtK L (i + 1 + (ktT t).length) ([(3, ⟨#[123]⟩)] ++ ktGs b ++ [(3, ⟨#[125]⟩)]) := by
      have h2' : AtK L (i + 1 + (ktT t).length) (([(3, ⟨#[123]⟩)] ++ ktGs b ++ [(3, ⟨#[125]⟩)]) ++ (if e.length = 0 then [] else [(1, tElse), (3, ⟨#[123]⟩)] ++ (ktGs e ++ [(3, ⟨#[125]⟩)]))) := by simpa only [List.append_assoc] using h2
      exact h2'.left
    rw [blk_parse ib hb (by omega) hB (by omega), bind_ok]
    have h3a : AtK L (i + 1 + (ktT t).length + 1) (ktGs b ++ ([(3, ⟨#[125]⟩)] ++ (if e.length = 0 then [] else [(1, tElse), (3, ⟨#[123]⟩)] ++ (ktGs e ++ [(3, ⟨#[125]⟩)])))) := h2.next
    have h3 : AtK L (i + 1 + (ktT t).length + 1 + (ktGs b).length + 1) (if e.length = 0 then [] else [(1, tElse), (3, ⟨#[123]⟩)] ++ (ktGs e ++ [(3, ⟨#[125]⟩)])) := h3a.right.next
    split at ha
    · next h0 =>
      have e0 := List.eq_nil_of_length_eq_zero h0
      subst e0
      have hq : i + 1 + (ktT t).length + 1 + (ktGs b).length + 1 = i + ([((1 : Int), wdB k)] ++ ktT t ++ [((3 : Int), (⟨#[123]⟩ : ByteArray))] ++ ktGs b ++ [((3 : Int), (⟨#[125]⟩ : ByteArray))] ++ (if ([] : List St).length = 0 then [] else [((1 : Int), tElse), ((3 : Int), (⟨#[123]⟩ : ByteArray))] ++ ktGs [] ++ [((3 : Int), (⟨#[125]⟩ : ByteArray))])).length := by
        rw [if_pos h0]
        simp only [List.length_append, List.length_cons, List.length_nil]; omega
      rw [← hq] at hn ⊢
      rw [if_pos (.inr hn), snodess, Nat.sub_zero]
    · next h0 =>
      rw [if_neg h0] at h3
      have hk2 : k = 2 := by
        rcases hm with h | h
        · exact h
        · subst h
          have := (shape_3 hs).2
          rw [this] at h0
          exact absurd rfl h0
      subst hk2
      obtain ⟨_, _, h4⟩ := h3.one
      have h5 := h3.next
      rw [if_neg (by rw [h4]; simp)]
      have h6' : AtK L (i + 1 + (ktT t).length + 1 + (ktGs b).length + 1 + 1) ([(3, ⟨#[123]⟩)] ++ ktGs e ++ [(3, ⟨#[125]⟩)]) := by
        simpa using h5
      have hw : ¬ wordOf L (i + 1 + (ktT t).length + 1 + (ktGs b).length + 1 + 1 + 1) = 0 := by
        obtain ⟨g, r, rfl⟩ : ∃ g r, e = g :: r := by
          cases e with
          | nil => exact absurd rfl h0
          | cons g r => exact ⟨g, r, rfl⟩
        obtain ⟨gk, gs, gt, gb, ge⟩ := g
        rw [rightGs, Bool.and_eq_true] at he
        obtain ⟨x, rest, e1, _, e3⟩ := ktG_head he.1
        have h7 := h6'
        rw [List.append_assoc] at h7
        have h7b : AtK L (i + 1 + (ktT t).length + 1 + (ktGs b).length + 1 + 1 + 1) (ktGs (St.mk gk gs gt gb ge :: r) ++ [(3, ⟨#[125]⟩)]) := h7.next
        have h8 := h7b.left
        have e8 : ktGs (St.mk gk gs gt gb ge :: r) = ktG (St.mk gk gs gt gb ge) ++ ktGs r := by rw [ktGs]
        have h9 := AtK.head (AtK.left (a := ktG (St.mk gk gs gt gb ge)) (b := ktGs r) (e8 ▸ h8)) e1
        rw [e3 L _ h9]
        have := shape_kind (right_shape he.1)
        omega
      unfold elsG
      rw [if_neg (fun h => hw h.2), blk_parse ie he (by omega) h6' (by omega), bind_ok, if_neg h0]
      congr 1
      simp only [List.length_append, List.length_cons, List.length_nil]; omega
  by_cases h1 : k = 1
  · subst h1
    obtain ⟨hnm, ht, rfl, rfl⟩ := shape_1 hs
    unfold oneG
    rw [if_neg hm, if_pos rfl]
    rw [ktG_1, List.append_assoc] at ha
    obtain ⟨_, _, a1⟩ := ha.one
    have h2 := ha.next
    obtain ⟨_, _, a2⟩ := h2.one
    have h3 : AtK L (i + 1 + 1) (ktT t ++ [(3, ⟨#[59]⟩)]) := h2.next
    obtain ⟨_, _, a3⟩ := h3.right.one
    rw [tk_ok a2, bind_ok, rdT_parse L n 6 t ht _ h3.left, bind_ok, tk_ok a3, bind_ok, a1, ktG_1, snodess, Nat.sub_zero, Nat.sub_zero]
    congr 1
    simp only [List.length_append, List.length_cons, List.length_nil]; omega
  by_cases h8 : k = 8
  · subst h8
    obtain ⟨rfl, rfl⟩ := plain_kids hs rfl
    obtain ⟨rfl, rfl⟩ := hz.2.1 rfl
    unfold oneG
    rw [if_neg (by omega), if_neg (by omega), if_pos rfl]
    rw [ktG_8] at ha
    obtain ⟨_, _, a2⟩ := ha.next.one
    rw [tk_ok a2, bind_ok, ktG_8, snodess, Nat.sub_zero, Nat.sub_zero]
    rfl
  have hkw : k = 4 ∨ k = 5 ∨ k = 6 ∨ k = 7 := by omega
  obtain ⟨hnm, rfl, rfl⟩ := shape_w hkw hs
  have hzt := hz.2.2 hkw
  subst hzt
  unfold oneG
  rw [if_neg (by omega), if_neg (by omega), if_neg (by omega)]
  rw [ktG_w hkw] at ha
  obtain ⟨_, _, a2⟩ := ha.next.one
  obtain ⟨_, _, a3⟩ := ha.next.next.one
  rw [if_pos (by rw [nmB_of a2]; exact hnm), tk_ok (i := i + 2) a3, bind_ok, a2, ktG_w hkw, snodess, Nat.sub_zero, Nat.sub_zero]
  rfl
theorem rdS_nil {L : List Sg} {n room i left : Nat} (h : wordOf L i = 0) : rdS L n room i left = .ok ([], left) i := by rw [rdS_eq, stepG, if_pos h]
theorem rds_ok (L : List Sg) (n : Nat) : ∀ l, RdsOk L n l := by
  intro l
  induction hN : snodess l using Nat.strongRecOn generalizing l with
  | ind N ih =>
    intro room i left hr h6 ha hw he hl
    cases l with
    | nil =>
      rw [ktGs] at hw ⊢
      rw [rdS_nil (by simpa using hw), snodess]; rfl
    | cons g r =>
      obtain ⟨k, s, t, b, e⟩ := g
      have hN2 : snodess (St.mk k s t b e :: r) = 1 + snodess b + snodess e + snodess r := by rw [snodess, snodes]
      rw [hN2] at hN hl
      have hr0 := hr
      rw [rightGs, Bool.and_eq_true] at hr
      rw [ktGs] at ha hw he ⊢
      have hs := right_shape hr.1
      have hk := shape_kind hs
      obtain ⟨x, rest, e1, e2, e3⟩ := ktG_head hr.1
      have hwd := e3 L i (ha.left.head e1)
      have hnext : ¬ tx L (i + (ktG (.mk k s t b e)).length) = tElse := by
        cases r with
        | nil =>
          rw [ktGs, List.append_nil] at he; exact he
        | cons g2 r2 =>
          obtain ⟨k2, s2, t2, b2, e2'⟩ := g2
          have hr2 := hr.2
          rw [rightGs, Bool.and_eq_true] at hr2
          obtain ⟨x2, rest2, f1, f2, _⟩ := ktG_head hr2.1
          have h9 := ha.right
          rw [ktGs] at h9
          rw [h9.left.head f1]; exact f2
      rw [rdS_eq, stepG, hwd, if_neg (by omega)]
      have hroom : ¬ ((k = 2 ∨ k = 3) ∧ room = 0) := by
        rintro ⟨hm, h0⟩
        obtain ⟨_, d', hd, _⟩ := right_many hm hr.1
        omega
      rw [if_neg hroom, if_neg (by omega)]
      have hone : oneG L n (rdS L n (room - 1)) k i (left - 1) = .ok (.mk k s t b e, left - 1 - snodess b - snodess e) (i + (ktG (.mk k s t b e)).length) := by
        by_cases h0 : room = 0
        · subst h0
          refine rd_one (room := 0) (ih (snodess b) (by omega) b rfl) (ih (snodess e) (by omega) e rfl) (rightG_le _ (by omega) hr.1) (by omega) ha.left hnext (by omega)
        · obtain ⟨r', rfl⟩ : ∃ r', room = r' + 1 := ⟨room - 1, by omega⟩
          exact rd_one (room := r') (ih (snodess b) (by omega) b rfl) (ih (snodess e) (by omega) e rfl) hr.1 h6 ha.left hnext (by omega)
      rw [hone, bind_ok]
      have hq : i + (ktG (.mk k s t b e) ++ ktGs r).length = i + (ktG (.mk k s t b e)).length + (ktGs r).length := by rw [List.length_append]; omega
      rw [hq] at hw he ⊢
      rw [ih (snodess r) (by omega) r rfl room _ _ hr.2 h6 ha.right hw he (by omega), bind_ok, hN2]
      congr 2
      omega
end Go.Proofs.YtefcdpkficojgaaDoor
