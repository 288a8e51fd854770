/- The signs of a right term's text, and of the signs told with blanks between them. Plain. -/
import Derived.Test.YtbbmoinaakbnbaaDoorLexT
import Derived.Test.YtbbmoinaakbnbaaDoorTermOk
namespace Go.Proofs.YtbbmoinaakbnbaaDoor
open Go.RowKit
set_option linter.unusedVariables false

theorem drop_one {s : ByteArray} {i : Nat} {c : UInt8} {b : List UInt8} (h : s.data.toList.drop i = c :: b) : s.data.toList.drop (i + 1) = b := drop_more (a := [c]) h
def opKd (k : Int) : Int := if k = 9 then 1 else 3
def joinS (k : Int) (a b : List UInt8) (f g : Nat → List Sg) (i : Nat) : List Sg :=
  if k = 8 then [⟨3, ⟨#[40]⟩, i⟩, ⟨1, ⟨#[110, 111, 116]⟩, i + 1⟩] ++ f (i + 5) ++ [⟨3, ⟨#[41]⟩, i + 5 + a.length⟩]
  else [⟨3, ⟨#[40]⟩, i⟩] ++ f (i + 1) ++ [⟨opKd k, signB k, i + 1 + a.length + 1⟩] ++ g (i + 1 + a.length + 1 + (signK k).length + 1) ++ [⟨3, ⟨#[41]⟩, i + 1 + a.length + 1 + (signK k).length + 1 + b.length⟩]
mutual
def sgnT : Tm → Nat → List Sg
  | .mk k n s kids => if k = 1 then fun i => [⟨2, ⟨(Lib.itoa n).toArray⟩, i⟩] else if k = 2 then fun i => [⟨1, s, i⟩] else joinS k ((txtTs kids)[0]?.getD []) ((txtTs kids)[1]?.getD []) ((sgnTs kids)[0]?.getD fun _ => []) ((sgnTs kids)[1]?.getD fun _ => [])
def sgnTs : List Tm → List (Nat → List Sg)
  | [] => []
  | t :: r => sgnT t :: sgnTs r
end
theorem sgnT_num {n : Int} {s : ByteArray} {kids : List Tm} {i : Nat} : sgnT (.mk 1 n s kids) i = [⟨2, ⟨(Lib.itoa n).toArray⟩, i⟩] := by rw [sgnT, if_pos rfl]
theorem sgnT_var {n : Int} {s : ByteArray} {kids : List Tm} {i : Nat} : sgnT (.mk 2 n s kids) i = [⟨1, s, i⟩] := by rw [sgnT, if_neg (by decide), if_pos rfl]
theorem sgnT_one {n : Int} {s : ByteArray} {x : Tm} {i : Nat} : sgnT (.mk 8 n s [x]) i = [⟨3, ⟨#[40]⟩, i⟩, ⟨1, ⟨#[110, 111, 116]⟩, i + 1⟩] ++ sgnT x (i + 5) ++ [⟨3, ⟨#[41]⟩, i + 5 + (txtT x).length⟩] := by
  simp [sgnT, sgnTs, txtTs, joinS]
theorem sgnT_two {k n : Int} {s : ByteArray} {x y : Tm} {i : Nat} (h1 : k ≠ 1) (h2 : k ≠ 2) (h8 : k ≠ 8) : sgnT (.mk k n s [x, y]) i = [⟨3, ⟨#[40]⟩, i⟩] ++ sgnT x (i + 1) ++ [⟨opKd k, signB k, i + 1 + (txtT x).length + 1⟩] ++ sgnT y (i + 1 + (txtT x).length + 1 + (signK k).length + 1) ++ [⟨3, ⟨#[41]⟩, i + 1 + (txtT x).length + 1 + (signK k).length + 1 + (txtT y).length⟩] := by
  rw [sgnT, if_neg h1, if_neg h2, txtTs, txtTs, txtTs, sgnTs, sgnTs, sgnTs, joinS, if_neg h8]; rfl
theorem sgnT_ne (t : Tm) (r : Nat) (h : okT r t = true) (i : Nat) : 0 < (sgnT t i).length := by
  obtain ⟨k, n, s, kids⟩ := t
  by_cases h1 : k = 1
  · subst h1; rw [sgnT_num]; simp
  by_cases h2 : k = 2
  · subst h2; rw [sgnT_var]; simp
  obtain ⟨r', he, ⟨rfl, x, rfl, hx⟩ | ⟨hk, x, y, rfl, hx, hy⟩⟩ := okT_kids h1 h2 h
  · rw [sgnT_one]; simp
  · rw [sgnT_two h1 h2 (by omega)]; simp
theorem dig_ok {c : UInt8} (h : isDig c = true) : smallB (c.toNat : Int) = false ∧ figB (c.toNat : Int) = true ∧ okC c = true := by
  unfold isDig at h
  rw [Bool.and_eq_true, decide_eq_true_eq, decide_eq_true_eq] at h
  have e2 : figB (c.toNat : Int) = true := by unfold figB; rw [decide_eq_true (by omega), decide_eq_true (by omega)]; rfl
  refine ⟨?_, e2, by unfold okC; rw [e2]; simp⟩
  unfold smallB; rw [decide_eq_false (by omega)]; rfl
theorem tok_num {n : Int} (h0 : 0 ≤ n) (h1 : n ≤ 1000000000) : Tok 2 (Lib.itoa n) := by
  have hr := read_itoa h0 h1
  have e : Lib.itoa n = Lib.decDigits n.toNat := by
    unfold Lib.itoa; rw [if_neg (by omega)]
  have ha := (dec_facts n.toNat).2
  rw [← e] at ha
  cases hx : Lib.itoa n with
  | nil => rw [hx] at hr; have e2 : (⟨([] : List UInt8).toArray⟩ : ByteArray) = ByteArray.empty := rfl; rw [e2, empty_read] at hr; simp at hr
  | cons c r =>
    rw [← hx]
    have hc : isDig c = true := by rw [hx, List.all_cons, Bool.and_eq_true] at ha; exact ha.1
    obtain ⟨d1, d2, d3⟩ := dig_ok hc
    refine .inr (.inl ⟨rfl, c, r, hx, d1, d2, ?_, by rw [hr]⟩)
    rw [List.all_eq_true] at ha ⊢
    exact fun x hx => (dig_ok (ha x hx)).2.2
theorem num_not {n : Int} (h0 : 0 ≤ n) (h1 : n ≤ 1000000000) : ¬ Lib.itoa n = [61] := by
  intro e
  have := tok_num h0 h1
  rw [e] at this
  rcases this with ⟨h, _⟩ | ⟨_, c, r, h, _, h2, _⟩ | ⟨h, _⟩
  · cases h
  · cases h; exact absurd h2 (by decide)
  · cases h
theorem tok_word {x : List UInt8} (h : wordL x = true) : Tok 1 x := by
  unfold wordL at h
  simp only [Bool.and_eq_true, decide_eq_true_eq] at h
  obtain ⟨⟨⟨h1, h2⟩, h3⟩, h4⟩ := h
  cases x with
  | nil => simp at h1
  | cons c r => exact .inl ⟨rfl, c, r, rfl, by simpa using h3, h4, h2⟩
theorem tok_name {x : List UInt8} (h : isNameL x = true) : Tok 1 x := by
  unfold isNameL at h
  rw [Bool.and_eq_true] at h
  exact tok_word h.1
theorem tok_op {k : Int} (h : 3 ≤ k ∧ k ≤ 9 ∧ k ≠ 8) : Tok (opKd k) (signK k) := by
  have : k = 3 ∨ k = 4 ∨ k = 5 ∨ k = 6 ∨ k = 7 ∨ k = 9 := by omega
  rcases this with rfl | rfl | rfl | rfl | rfl | rfl
  · exact .inr (.inr ⟨rfl, by decide⟩)
  · exact .inr (.inr ⟨rfl, by decide⟩)
  · exact .inr (.inr ⟨rfl, by decide⟩)
  · exact .inr (.inr ⟨rfl, by decide⟩)
  · exact .inr (.inr ⟨rfl, by decide⟩)
  · exact tok_word (by decide)
theorem tok_open : Tok 3 [40] := .inr (.inr ⟨rfl, by decide⟩)
theorem tok_shut : Tok 3 [41] := .inr (.inr ⟨rfl, by decide⟩)
theorem tok_not : Tok 1 [110, 111, 116] := tok_word (by decide)
/-- a right term's text is lexed into its signs -/
theorem lex_term (r : Nat) : ∀ t, okT r t = true → ∀ {s : ByteArray} {i : Nat} {rest : List UInt8} {acc : List Sg}, s.data.toList.drop i = txtT t ++ rest → offW rest →
    lexS s i acc = lexS s (i + (txtT t).length) (acc ++ sgnT t i) := by
  induction r with
  | zero =>
    intro t h s i rest acc hd ho
    obtain ⟨k, n, nm, kids⟩ := t
    by_cases h1 : k = 1
    · subst h1
      have hb := okT_num_bd h
      rw [txtT_num] at hd ⊢
      rw [lex_tok hd (tok_num hb.1 hb.2) ⟨fun _ => ho, fun e => absurd e (num_not hb.1 hb.2)⟩, sgnT_num]
    by_cases h2 : k = 2
    · subst h2
      have hn := h
      rw [okT_var, Bool.and_eq_true, Bool.and_eq_true] at hn
      have tk := tok_name hn.1.2
      rw [txtT_var] at hd ⊢
      rw [lex_tok hd tk ⟨fun _ => ho, fun e => absurd hn.1.2 (by rw [e]; decide)⟩, sgnT_var]
    rw [okT_zero (by simpa using h1) (by simpa using h2)] at h
    cases h
  | succ r ih =>
    intro t h s i rest acc hd ho
    obtain ⟨k, n, nm, kids⟩ := t
    by_cases h1 : k = 1
    · subst h1
      have hb := okT_num_bd h
      rw [txtT_num] at hd ⊢
      rw [lex_tok hd (tok_num hb.1 hb.2) ⟨fun _ => ho, fun e => absurd e (num_not hb.1 hb.2)⟩, sgnT_num]
    by_cases h2 : k = 2
    · subst h2
      have hn := h
      rw [okT_var, Bool.and_eq_true, Bool.and_eq_true] at hn
      have tk := tok_name hn.1.2
      rw [txtT_var] at hd ⊢
      rw [lex_tok hd tk ⟨fun _ => ho, fun e => absurd hn.1.2 (by rw [e]; decide)⟩, sgnT_var]
    obtain ⟨r', he, ⟨rfl, x, rfl, hx⟩ | ⟨hk, x, y, rfl, hx, hy⟩⟩ := okT_kids h1 h2 h
    · have : r' = r := by omega
      subst this
      rw [txtT_one] at hd
      have d0 : s.data.toList.drop i = [40] ++ ([110, 111, 116] ++ (32 :: (txtT x ++ ([41] ++ rest)))) := by rw [hd]; simp
      have d1 := drop_more d0
      have d2 := drop_more d1
      have d3 := drop_one d2
      have d4 := drop_more d3
      rw [lex_tok d0 tok_open ⟨fun h => absurd rfl h, fun e => absurd e (by decide)⟩, lex_tok d1 tok_not ⟨fun _ => offW_cons (by decide), fun e => absurd e (by decide)⟩, lex_blank d2 rfl,
        ih x hx d3 (offW_cons (by decide)), lex_tok d4 tok_shut ⟨fun h => absurd rfl h, fun e => absurd e (by decide)⟩, sgnT_one, txtT_one]
      simp only [List.length_cons, List.length_nil, List.length_append] at *
      have e3 : i + (0 + 1) + (0 + 1 + 1 + 1) + 1 + (txtT x).length + (0 + 1) = i + (0 + 1 + 1 + 1 + 1 + 1 + (txtT x).length + (0 + 1)) := by omega
      have e4 : i + (0 + 1) + (0 + 1 + 1 + 1) + 1 = i + 5 := by omega
      rw [e3, e4]
      simp
    · have : r' = r := by omega
      subst this
      have h8 : k ≠ 8 := by omega
      have to := tok_op (k := k) (by omega)
      have hno : ¬ signK k = [61] := by
        have : k = 3 ∨ k = 4 ∨ k = 5 ∨ k = 6 ∨ k = 7 ∨ k = 9 := by omega
        rcases this with rfl | rfl | rfl | rfl | rfl | rfl <;> decide
      rw [txtT_two h1 h2 h8] at hd
      have d0 : s.data.toList.drop i = [40] ++ (txtT x ++ (32 :: (signK k ++ (32 :: (txtT y ++ ([41] ++ rest)))))) := by rw [hd]; simp
      have d1 := drop_more d0
      have d2 := drop_more d1
      have d3 := drop_one d2
      have d4 := drop_more d3
      have d5 := drop_one d4
      have d6 := drop_more d5
      rw [lex_tok d0 tok_open ⟨fun h => absurd rfl h, fun e => absurd e (by decide)⟩, ih x hx d1 (offW_cons (by decide)), lex_blank d2 rfl,
        lex_tok d3 to ⟨fun _ => offW_cons (by decide), fun e => absurd e hno⟩, lex_blank d4 rfl,
        ih y hy d5 (offW_cons (by decide)), lex_tok d6 tok_shut ⟨fun h => absurd rfl h, fun e => absurd e (by decide)⟩, sgnT_two h1 h2 h8, txtT_two h1 h2 h8]
      have e5 : signB k = ⟨(signK k).toArray⟩ := rfl
      rw [e5]
      simp only [List.length_cons, List.length_nil, List.length_append, Nat.zero_add] at *
      have e3 : i + 1 + (txtT x).length + 1 + (signK k).length + 1 + (txtT y).length + 1 = i + (1 + (txtT x).length + (1 + (signK k).length + 1) + (txtT y).length + 1) := by omega
      rw [e3]
      simp
end Go.Proofs.YtbbmoinaakbnbaaDoor
