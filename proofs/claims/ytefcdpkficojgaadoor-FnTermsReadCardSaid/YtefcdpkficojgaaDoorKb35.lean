/- Several texts in one: LexT, RdP, TermSg. -/
import Derived.Test.YtefcdpkficojgaaDoorKb34
import Derived.Test.YtefcdpkficojgaaDoorKb12
import Derived.Test.YtefcdpkficojgaaDoorKb5
import Derived.Test.YtefcdpkficojgaaDoorKb10
namespace Go.Proofs.YtefcdpkficojgaaDoor
open Go.RowKit
set_option linter.unusedVariables false


/-- what stands behind a word: no letter, no figure -/
def offW (l : List UInt8) : Prop := ∀ c r, l = c :: r → okC c = false
def offE (l : List UInt8) : Prop := ∀ c r, l = c :: r → c.toNat ≠ 61
theorem offW_nil : offW [] := fun _ _ h => by cases h
theorem offW_cons {c : UInt8} {r : List UInt8} (h : okC c = false) : offW (c :: r) := fun _ _ e => by cases e; exact h
theorem offE_cons {c : UInt8} {r : List UInt8} (h : c.toNat ≠ 61) : offE (c :: r) := fun _ _ e => by cases e; exact h
theorem at_of {s : ByteArray} {i : Nat} {c : UInt8} {r : List UInt8} (h : s.data.toList.drop i = c :: r) : ∃ hi : i < s.size, s[i] = c := by
  have hl := congrArg List.length h
  rw [List.length_drop, size_list, List.length_cons] at hl
  refine ⟨by omega, ?_⟩
  have := congrArg (fun l => l[0]?) h
  simp only [List.getElem?_drop, List.getElem?_cons_zero] at this
  rw [List.getElem?_eq_getElem (by rw [size_list]; omega)] at this
  exact Option.some.inj this
theorem end_of {s : ByteArray} {i : Nat} (h : s.data.toList.drop i = []) : ¬ i < s.size := by
  have hl := congrArg List.length h
  rw [List.length_drop, size_list, List.length_nil] at hl
  omega
theorem drop_more {s : ByteArray} {i : Nat} {a b : List UInt8} (h : s.data.toList.drop i = a ++ b) : s.data.toList.drop (i + a.length) = b := by
  rw [← List.drop_drop, h, List.drop_left]
theorem ext_of {s : ByteArray} {i : Nat} {a b : List UInt8} (h : s.data.toList.drop i = a ++ b) : s.extract i (i + a.length) = ⟨a.toArray⟩ := by
  apply str_ext
  rw [ext_list, h, Nat.add_sub_cancel_left, List.take_left]
theorem run_of {s : ByteArray} (a : List UInt8) : ∀ {i : Nat} {b : List UInt8}, s.data.toList.drop i = a ++ b → a.all okC = true → offW b → runE s i = i + a.length := by
  induction a with
  | nil =>
    intro i b h _ ho
    rw [List.nil_append] at h
    refine runE_no ?_
    cases b with
    | nil => exact okAt_ge (end_of h)
    | cons c r =>
      obtain ⟨hi, e⟩ := at_of h
      rw [okAt_lt hi, e]; exact ho c r rfl
  | cons c r ih =>
    intro i b h ha ho
    rw [List.all_cons, Bool.and_eq_true] at ha
    rw [List.cons_append] at h
    obtain ⟨hi, e⟩ := at_of h
    have h2 : s.data.toList.drop (i + 1) = r ++ b := drop_more (a := [c]) h
    rw [runE_yes (by rw [okAt_lt hi, e]; exact ha.1), ih h2 ha.2 ho, List.length_cons]
    omega
/-- a sign's text, by its kind -/
def Tok (k : Int) (x : List UInt8) : Prop :=
  (k = 1 ∧ ∃ c r, x = c :: r ∧ smallB (c.toNat : Int) = true ∧ x.all okC = true ∧ x.length ≤ 12) ∨
  (k = 2 ∧ ∃ c r, x = c :: r ∧ smallB (c.toNat : Int) = false ∧ figB (c.toNat : Int) = true ∧ x.all okC = true ∧ (readD ⟨x.toArray⟩).2 = true) ∨
  (k = 3 ∧ isMarkL x = true)
def Sep (k : Int) (x rest : List UInt8) : Prop := (k ≠ 3 → offW rest) ∧ (x = [61] → offE rest)
theorem mark_cases {x : List UInt8} (h : isMarkL x = true) : x = [61, 61] ∨ x = [61] ∨ (∃ c, x = [c] ∧ c.toNat ≠ 61 ∧ smallB (c.toNat : Int) = false ∧ figB (c.toNat : Int) = false ∧ blankB c = false) := by
  unfold isMarkL at h
  simp only [Bool.or_eq_true, beq_iff_eq] at h
  rcases h with ((((((((((h | h) | h) | h) | h) | h) | h) | h) | h) | h) | h) | h <;> subst h
  all_goals first | exact .inl rfl | exact .inr (.inl rfl) | exact .inr (.inr ⟨_, rfl, by decide, by decide, by decide, by decide⟩)
theorem blank_small {c : UInt8} (h : smallB (c.toNat : Int) = true) : blankB c = false := by
  unfold smallB at h
  simp at h
  unfold blankB
  rw [decide_eq_false (by omega), decide_eq_false (by omega), decide_eq_false (by omega), decide_eq_false (by omega)]; rfl
theorem blank_fig {c : UInt8} (h : figB (c.toNat : Int) = true) : blankB c = false := by
  unfold figB at h
  simp at h
  unfold blankB
  rw [decide_eq_false (by omega), decide_eq_false (by omega), decide_eq_false (by omega), decide_eq_false (by omega)]; rfl
theorem two_no {s : ByteArray} {i : Nat} (hi : i < s.size) (h : s[i].toNat ≠ 61) : eqTwo s i = false := by
  unfold eqTwo; split
  · rw [decide_eq_false h]; rfl
  · rfl
theorem sign_tok {s : ByteArray} {i : Nat} {k : Int} {x rest : List UInt8} (hd : s.data.toList.drop i = x ++ rest) (t : Tok k x) (sep : Sep k x rest) :
    ∃ hi : i < s.size, blankB s[i] = false ∧ signP s i hi = (k, i + x.length, true) := by
  rcases t with ⟨rfl, c, r, hx, h1, h2, h3⟩ | ⟨rfl, c, r, hx, h1, h1', h2, h3⟩ | ⟨rfl, hm⟩
  · have hd' : s.data.toList.drop i = c :: (r ++ rest) := by rw [hd, hx]; rfl
    obtain ⟨hi, e⟩ := at_of hd'
    have hr := run_of x hd h2 (sep.1 (by decide))
    refine ⟨hi, by rw [e]; exact blank_small h1, ?_⟩
    unfold signP
    rw [e, if_pos h1, hr, decide_eq_true (by omega)]
  · have hd' : s.data.toList.drop i = c :: (r ++ rest) := by rw [hd, hx]; rfl
    obtain ⟨hi, e⟩ := at_of hd'
    have hr := run_of x hd h2 (sep.1 (by decide))
    refine ⟨hi, by rw [e]; exact blank_fig h1', ?_⟩
    unfold signP
    rw [e, if_neg (by rw [h1]; decide), if_pos h1', hr, ext_of hd, h3]
  · rcases mark_cases hm with rfl | rfl | ⟨c, rfl, hc, s1, s2, s3⟩
    · obtain ⟨hi, e⟩ := at_of (c := 61) (r := 61 :: rest) hd
      obtain ⟨hi2, e2⟩ := at_of (c := 61) (r := rest) (drop_more (a := [61]) (b := 61 :: rest) hd)
      have et : eqTwo s i = true := by
        unfold eqTwo
        rw [dif_pos (show i + 1 < s.size from hi2), e]
        have e2' : s[i + 1] = 61 := e2
        rw [e2']; rfl
      refine ⟨hi, by rw [e]; rfl, ?_⟩
      unfold signP
      rw [e, if_neg (by decide), if_neg (by decide), if_pos et]
      have := ext_of hd
      simp only [List.length_cons, List.length_nil] at this ⊢
      rw [this]
      unfold markB
      rw [Lib.toList_data]
      rfl
    · obtain ⟨hi, e⟩ := at_of (c := 61) (r := rest) hd
      have et : eqTwo s i = false := by
        unfold eqTwo
        split
        · rename_i h2
          have hd2 := drop_more (a := [61]) (b := rest) hd
          cases rest with
          | nil => have := end_of hd2; simp at this; omega
          | cons c2 r2 =>
            obtain ⟨hi2, e2⟩ := at_of hd2
            have e2' : s[i + 1] = c2 := e2
            rw [e2', decide_eq_false (p := c2.toNat = 61) (sep.2 rfl c2 r2 rfl), Bool.and_false]
        · rfl
      refine ⟨hi, by rw [e]; rfl, ?_⟩
      unfold signP
      rw [e, if_neg (by decide), if_neg (by decide), if_neg (by rw [et]; decide)]
      have := ext_of hd
      simp only [List.length_cons, List.length_nil] at this ⊢
      rw [this]
      unfold markB
      rw [Lib.toList_data]
      rfl
    · obtain ⟨hi, e⟩ := at_of (c := c) (r := rest) hd
      have et : eqTwo s i = false := two_no hi (by rw [e]; exact hc)
      refine ⟨hi, by rw [e]; exact s3, ?_⟩
      unfold signP
      rw [e, if_neg (by rw [s1]; decide), if_neg (by rw [s2]; decide), if_neg (by rw [et]; decide)]
      have := ext_of hd
      simp only [List.length_cons, List.length_nil] at this ⊢
      rw [this]
      unfold markB
      rw [Lib.toList_data]
      show (3, i + 1, isMarkL [c]) = _
      rw [hm]
/-- a sign's text comes back as the sign -/
theorem lex_tok {s : ByteArray} {i : Nat} {k : Int} {x rest : List UInt8} {acc : List Sg} (hd : s.data.toList.drop i = x ++ rest) (t : Tok k x) (sep : Sep k x rest) :
    lexS s i acc = lexS s (i + x.length) (acc ++ [⟨k, ⟨x.toArray⟩, i⟩]) := by
  obtain ⟨hi, hb, hs⟩ := sign_tok hd t sep
  rw [lexS_sign hi hb (by rw [hs]), hs]
  simp only
  rw [ext_of hd]
theorem lex_blank {s : ByteArray} {i : Nat} {c : UInt8} {rest : List UInt8} {acc : List Sg} (hd : s.data.toList.drop i = c :: rest) (hb : blankB c = true) : lexS s i acc = lexS s (i + 1) acc := by
  obtain ⟨hi, e⟩ := at_of hd
  exact lexS_blank hi (by rw [e]; exact hb)
theorem lex_end {s : ByteArray} {i : Nat} {acc : List Sg} (hd : s.data.toList.drop i = []) : lexS s i acc = (acc, 0, 0) := lexS_end (end_of hd)
/- the other way: the signs of a text are such, and each lies where it says -/

def sg0 : Sg := ⟨0, ⟨#[]⟩, 0⟩
def sgAt (L : List Sg) (i : Nat) : Sg := (L[i]?).getD sg0
def tx (L : List Sg) (i : Nat) : ByteArray := (sgAt L i).t
def nmB (L : List Sg) (i : Nat) : Bool := isNameL (tx L i).data.toList
/-- where a fault at the i-th sign stands: at the text's end behind the last one -/
def posAt (L : List Sg) (n i : Nat) : Nat := ((L[i]?).map fun g => g.p).getD n
theorem sgAt_lt {L : List Sg} {i : Nat} (h : i < L.length) : sgAt L i = L[i] := by unfold sgAt; rw [List.getElem?_eq_getElem h]; rfl
theorem sgAt_ge {L : List Sg} {i : Nat} (h : ¬ i < L.length) : sgAt L i = sg0 := by unfold sgAt; rw [List.getElem?_eq_none (by omega)]; rfl
theorem posAt_lt {L : List Sg} {n i : Nat} (h : i < L.length) : posAt L n i = L[i].p := by unfold posAt; rw [List.getElem?_eq_getElem h]; rfl
theorem posAt_ge {L : List Sg} {n i : Nat} (h : ¬ i < L.length) : posAt L n i = n := by unfold posAt; rw [List.getElem?_eq_none (by omega)]; rfl
theorem tx_lt {L : List Sg} {i : Nat} (h : i < L.length) : tx L i = L[i].t := by unfold tx; rw [sgAt_lt h]
theorem tx_ge {L : List Sg} {i : Nat} (h : ¬ i < L.length) : tx L i = ⟨#[]⟩ := by unfold tx; rw [sgAt_ge h]; rfl
theorem nmB_ge {L : List Sg} {i : Nat} (h : ¬ i < L.length) : nmB L i = false := by unfold nmB; rw [tx_ge h]; decide
/-- what reading yields: a fault and its place, or what was read and the sign behind it -/
inductive Got (α : Type) where
  | bad (c : Int) (p : Nat)
  | ok (a : α) (i : Nat)
def kindOf (t : ByteArray) : Int := if t = ⟨#[43]⟩ then 3 else if t = ⟨#[45]⟩ then 4 else if t = ⟨#[42]⟩ then 5 else if t = ⟨#[60]⟩ then 6 else if t = ⟨#[61, 61]⟩ then 7 else if t = ⟨#[97, 110, 100]⟩ then 9 else 0
theorem kindOf_cases (t : ByteArray) : kindOf t = 0 ∨ ((kindOf t = 3 ∨ kindOf t = 4 ∨ kindOf t = 5 ∨ kindOf t = 6 ∨ kindOf t = 7 ∨ kindOf t = 9)) := by
  unfold kindOf
  repeat' split
  all_goals simp
def closeT (L : List Sg) (n : Nat) (t : Tm) (q : Nat) : Got Tm := if tx L q = ⟨#[41]⟩ then .ok t (q + 1) else .bad 3 (posAt L n q)
def innT (L : List Sg) (n : Nat) (rd : Nat → Got Tm) (i : Nat) : Got Tm :=
  if tx L i = ⟨#[110, 111, 116]⟩ then
    match rd (i + 1) with
    | .bad c p => .bad c p
    | .ok x q => closeT L n (.mk 8 0 ⟨#[]⟩ [x]) q
  else
    match rd i with
    | .bad c p => .bad c p
    | .ok a q =>
      if kindOf (tx L q) = 0 then .bad 3 (posAt L n q) else
        match rd (q + 1) with
        | .bad c p => .bad c p
        | .ok b q2 => closeT L n (.mk (kindOf (tx L q)) 0 ⟨#[]⟩ [a, b]) q2
def leafT (L : List Sg) (n i : Nat) (inner : Got Tm) : Got Tm :=
  if (sgAt L i).k = 2 then .ok (.mk 1 (readD (tx L i)).1 ⟨#[]⟩ []) (i + 1)
  else if nmB L i = true then .ok (.mk 2 0 (tx L i) []) (i + 1)
  else if tx L i = ⟨#[40]⟩ then inner else .bad 3 (posAt L n i)
def rdT (L : List Sg) (n : Nat) : Nat → Nat → Got Tm
  | 0, i => leafT L n i (.bad 4 (posAt L n i))
  | r + 1, i => leafT L n i (innT L n (rdT L n r) (i + 1))
theorem leafT_num {L : List Sg} {n i : Nat} {g : Got Tm} (h : (sgAt L i).k = 2) : leafT L n i g = .ok (.mk 1 (readD (tx L i)).1 ⟨#[]⟩ []) (i + 1) := by unfold leafT; rw [if_pos h]
theorem leafT_var {L : List Sg} {n i : Nat} {g : Got Tm} (h : ¬ (sgAt L i).k = 2) (h2 : nmB L i = true) : leafT L n i g = .ok (.mk 2 0 (tx L i) []) (i + 1) := by unfold leafT; rw [if_neg h, if_pos h2]
theorem leafT_in {L : List Sg} {n i : Nat} {g : Got Tm} (h : ¬ (sgAt L i).k = 2) (h2 : nmB L i = false) (h3 : tx L i = ⟨#[40]⟩) : leafT L n i g = g := by unfold leafT; rw [if_neg h, if_neg (by rw [h2]; decide), if_pos h3]
theorem leafT_bad {L : List Sg} {n i : Nat} {g : Got Tm} (h : ¬ (sgAt L i).k = 2) (h2 : nmB L i = false) (h3 : ¬ tx L i = ⟨#[40]⟩) : leafT L n i g = .bad 3 (posAt L n i) := by unfold leafT; rw [if_neg h, if_neg (by rw [h2]; decide), if_neg h3]
/-- a sign that is there -/
theorem there_of {L : List Sg} {i : Nat} (h : tx L i ≠ ⟨#[]⟩) : i < L.length := by
  rcases Nat.lt_or_ge i L.length with h1 | h1
  · exact h1
  · exact absurd (tx_ge (by omega)) h
theorem there_k {L : List Sg} {i : Nat} (h : (sgAt L i).k = 2) : i < L.length := by
  rcases Nat.lt_or_ge i L.length with h1 | h1
  · exact h1
  · rw [sgAt_ge (by omega)] at h; exact absurd h (by decide)
theorem there_n {L : List Sg} {i : Nat} (h : nmB L i = true) : i < L.length := by
  rcases Nat.lt_or_ge i L.length with h1 | h1
  · exact h1
  · rw [nmB_ge (by omega)] at h; cases h
theorem kindOf_empty : kindOf ⟨#[]⟩ = 0 := by decide
theorem there_kind {L : List Sg} {i : Nat} (h : ¬ kindOf (tx L i) = 0) : i < L.length := there_of fun e => h (by rw [e, kindOf_empty])
theorem closeT_ok {L : List Sg} {n q : Nat} {t t' : Tm} {q' : Nat} (h : closeT L n t q = .ok t' q') : t' = t ∧ q' = q + 1 ∧ q < L.length := by
  unfold closeT at h
  split at h
  · next h1 => injection h with h2 h3; exact ⟨h2.symm, h3.symm, there_of (by rw [h1]; decide)⟩
  · cases h
/-- a term that was read lies ahead of the sign behind it -/
theorem rdT_lt (L : List Sg) (n r : Nat) : ∀ i t q, rdT L n r i = .ok t q → i < q ∧ q ≤ L.length := by
  have leaf : ∀ i t q g, (∀ t q, g = .ok t q → i < q ∧ q ≤ L.length) → leafT L n i g = .ok t q → i < q ∧ q ≤ L.length := by
    intro i t q g hg h
    unfold leafT at h
    split at h
    · next h1 => injection h with _ h; have := there_k h1; omega
    · split at h
      · next h1 => injection h with _ h; have := there_n h1; omega
      · split at h
        · exact hg _ _ h
        · cases h
  induction r with
  | zero => intro i t q h; rw [rdT] at h; exact leaf i t q _ (fun _ _ h => by cases h) h
  | succ r ih =>
    intro i t q h
    rw [rdT] at h
    refine leaf i t q _ ?_ h
    intro t q h
    unfold innT at h
    split at h
    · split at h
      · cases h
      · next x q1 h1 =>
        have := ih _ _ _ h1
        obtain ⟨_, h2, h3⟩ := closeT_ok h
        omega
    · split at h
      · cases h
      · next a q1 h1 =>
        have := ih _ _ _ h1
        split at h
        · cases h
        · next hk =>
          split at h
          · cases h
          · next b q2 h2 =>
            have := ih _ _ _ h2
            obtain ⟨_, h2, h3⟩ := closeT_ok h
            omega
/-- a whole text's term -/
def endT {α : Type} (L : List Sg) (n : Nat) : Got α → Got α
  | .bad c p => .bad c p
  | .ok t q => if q < L.length then .bad 3 (posAt L n q) else .ok t q

theorem drop_one {s : ByteArray} {i : Nat} {c : UInt8} {b : List UInt8} (h : s.data.toList.drop i = c :: b) : s.data.toList.drop (i + 1) = b := drop_more (a := [c]) h
def opKd (k : Int) : Int := if k = 9 then 1 else 3
def joinS (k : Int) (a b : List UInt8) (f g : Nat → List Sg) (i : Nat) : List Sg :=
  if k = 8 then [⟨3, ⟨#[40]⟩, i⟩, ⟨1, ⟨#[110, 111, 116]⟩, i + 1⟩] ++ f (i + 5) ++ [⟨3, ⟨#[41]⟩, i + 5 + a.length⟩]
  else [⟨3, ⟨#[40]⟩, i⟩] ++ f (i + 1) ++ [⟨opKd k, signB k, i + 1 + a.length + 1⟩] ++ g (i + 1 + a.length + 1 + (signK k).length + 1) ++ [⟨3, ⟨#[41]⟩, i + 1 + a.length + 1 + (signK k).length + 1 + b.length⟩]
mutual
def sgnT : Tm → Nat → List Sg
  | .mk k n s kids => if k = 1 then fun i => [⟨2, ⟨(Lib.itoa n).toArray⟩, i⟩] else if k = 2 then fun i => [⟨1, s, i⟩] else joinS k ((txtTs kids)[0]?.getD []) ((txtTs kids)[1]?.getD []) ((sgnTs kids)[0]?.getD fun _ => []) ((sgnTs kids)[1]?.getD fun _ => [])
def sgnTs : List Tm → List (Nat → List Sg)
  | [] => []
  | t :: r => sgnT t :: sgnTs r
end
theorem sgnT_num {n : Int} {s : ByteArray} {kids : List Tm} {i : Nat} : sgnT (.mk 1 n s kids) i = [⟨2, ⟨(Lib.itoa n).toArray⟩, i⟩] := by rw [sgnT, if_pos rfl]
theorem sgnT_var {n : Int} {s : ByteArray} {kids : List Tm} {i : Nat} : sgnT (.mk 2 n s kids) i = [⟨1, s, i⟩] := by rw [sgnT, if_neg (by decide), if_pos rfl]
theorem sgnT_one {n : Int} {s : ByteArray} {x : Tm} {i : Nat} : sgnT (.mk 8 n s [x]) i = [⟨3, ⟨#[40]⟩, i⟩, ⟨1, ⟨#[110, 111, 116]⟩, i + 1⟩] ++ sgnT x (i + 5) ++ [⟨3, ⟨#[41]⟩, i + 5 + (txtT x).length⟩] := by
  simp [sgnT, sgnTs, txtTs, joinS]
theorem sgnT_two {k n : Int} {s : ByteArray} {x y : Tm} {i : Nat} (h1 : k ≠ 1) (h2 : k ≠ 2) (h8 : k ≠ 8) : sgnT (.mk k n s [x, y]) i = [⟨3, ⟨#[40]⟩, i⟩] ++ sgnT x (i + 1) ++ [⟨opKd k, signB k, i + 1 + (txtT x).length + 1⟩] ++ sgnT y (i + 1 + (txtT x).length + 1 + (signK k).length + 1) ++ [⟨3, ⟨#[41]⟩, i + 1 + (txtT x).length + 1 + (signK k).length + 1 + (txtT y).length⟩] := by
  rw [sgnT, if_neg h1, if_neg h2, txtTs, txtTs, txtTs, sgnTs, sgnTs, sgnTs, joinS, if_neg h8]; rfl
theorem dig_ok {c : UInt8} (h : isDig c = true) : smallB (c.toNat : Int) = false ∧ figB (c.toNat : Int) = true ∧ okC c = true := by
  unfold isDig at h
  rw [Bool.and_eq_true, decide_eq_true_eq, decide_eq_true_eq] at h
  have e2 : figB (c.toNat : Int) = true := by unfold figB; rw [decide_eq_true (by omega), decide_eq_true (by omega)]; rfl
  refine ⟨?_, e2, by unfold okC; rw [e2]; simp⟩
  unfold smallB; rw [decide_eq_false (by omega)]; rfl
theorem tok_num {n : Int} (h0 : 0 ≤ n) (h1 : n ≤ 1000000000) : Tok 2 (Lib.itoa n) := by
  have hr := read_itoa h0 h1
  have e : Lib.itoa n = Lib.decDigits n.toNat := by
    unfold Lib.itoa; rw [if_neg (by omega)]
  have ha := (dec_facts n.toNat).2
  rw [← e] at ha
  cases hx : Lib.itoa n with
  | nil => rw [hx] at hr; have e2 : (⟨([] : List UInt8).toArray⟩ : ByteArray) = ByteArray.empty := rfl; rw [e2, empty_read] at hr; simp at hr
  | cons c r =>
    rw [← hx]
    have hc : isDig c = true := by rw [hx, List.all_cons, Bool.and_eq_true] at ha; exact ha.1
    obtain ⟨d1, d2, d3⟩ := dig_ok hc
    refine .inr (.inl ⟨rfl, c, r, hx, d1, d2, ?_, by rw [hr]⟩)
    rw [List.all_eq_true] at ha ⊢
    exact fun x hx => (dig_ok (ha x hx)).2.2
theorem num_not {n : Int} (h0 : 0 ≤ n) (h1 : n ≤ 1000000000) : ¬ Lib.itoa n = [61] := by
  intro e
  have := tok_num h0 h1
  rw [e] at this
  rcases this with ⟨h, _⟩ | ⟨_, c, r, h, _, h2, _⟩ | ⟨h, _⟩
  · cases h
  · cases h; exact absurd h2 (by decide)
  · cases h
theorem tok_word {x : List UInt8} (h : wordL x = true) : Tok 1 x := by
  unfold wordL at h
  simp only [Bool.and_eq_true, decide_eq_true_eq] at h
  obtain ⟨⟨⟨h1, h2⟩, h3⟩, h4⟩ := h
  cases x with
  | nil => simp at h1
  | cons c r => exact .inl ⟨rfl, c, r, rfl, by simpa using h3, h4, h2⟩
theorem tok_name {x : List UInt8} (h : isNameL x = true) : Tok 1 x := by
  unfold isNameL at h
  rw [Bool.and_eq_true] at h
  exact tok_word h.1
theorem tok_op {k : Int} (h : 3 ≤ k ∧ k ≤ 9 ∧ k ≠ 8) : Tok (opKd k) (signK k) := by
  have : k = 3 ∨ k = 4 ∨ k = 5 ∨ k = 6 ∨ k = 7 ∨ k = 9 := by omega
  rcases this with rfl | rfl | rfl | rfl | rfl | rfl
  · exact .inr (.inr ⟨rfl, by decide⟩)
  · exact .inr (.inr ⟨rfl, by decide⟩)
  · exact .inr (.inr ⟨rfl, by decide⟩)
  · exact .inr (.inr ⟨rfl, by decide⟩)
  · exact .inr (.inr ⟨rfl, by decide⟩)
  · exact tok_word (by decide)
theorem tok_open : Tok 3 [40] := .inr (.inr ⟨rfl, by decide⟩)
theorem tok_shut : Tok 3 [41] := .inr (.inr ⟨rfl, by decide⟩)
theorem tok_not : Tok 1 [110, 111, 116] := tok_word (by decide)
/-- a right term's text is lexed into its signs -/
theorem lex_term (r : Nat) : ∀ t, okT r t = true → ∀ {s : ByteArray} {i : Nat} {rest : List UInt8} {acc : List Sg}, s.data.toList.drop i = txtT t ++ rest → offW rest →
    lexS s i acc = lexS s (i + (txtT t).length) (acc ++ sgnT t i) := by
  induction r with
  | zero =>
    intro t h s i rest acc hd ho
    obtain ⟨k, n, nm, kids⟩ := t
    by_cases h1 : k = 1
    · subst h1
      have hb := okT_num_bd h
      rw [txtT_num] at hd ⊢
      rw [lex_tok hd (tok_num hb.1 hb.2) ⟨fun _ => ho, fun e => absurd e (num_not hb.1 hb.2)⟩, sgnT_num]
    by_cases h2 : k = 2
    · subst h2
      have hn := h
      rw [okT_var, Bool.and_eq_true, Bool.and_eq_true] at hn
      have tk := tok_name hn.1.2
      rw [txtT_var] at hd ⊢
      rw [lex_tok hd tk ⟨fun _ => ho, fun e => absurd hn.1.2 (by rw [e]; decide)⟩, sgnT_var]
    rw [okT_zero (by simpa using h1) (by simpa using h2)] at h
    cases h
  | succ r ih =>
    intro t h s i rest acc hd ho
    obtain ⟨k, n, nm, kids⟩ := t
    by_cases h1 : k = 1
    · subst h1
      have hb := okT_num_bd h
      rw [txtT_num] at hd ⊢
      rw [lex_tok hd (tok_num hb.1 hb.2) ⟨fun _ => ho, fun e => absurd e (num_not hb.1 hb.2)⟩, sgnT_num]
    by_cases h2 : k = 2
    · subst h2
      have hn := h
      rw [okT_var, Bool.and_eq_true, Bool.and_eq_true] at hn
      have tk := tok_name hn.1.2
      rw [txtT_var] at hd ⊢
      rw [lex_tok hd tk ⟨fun _ => ho, fun e => absurd hn.1.2 (by rw [e]; decide)⟩, sgnT_var]
    obtain ⟨r', he, ⟨rfl, x, rfl, hx⟩ | ⟨hk, x, y, rfl, hx, hy⟩⟩ := okT_kids h1 h2 h
    · have : r' = r := by omega
      subst this
      rw [txtT_one] at hd
      have d0 : s.data.toList.drop i = [40] ++ ([110, 111, 116] ++ (32 :: (txtT x ++ ([41] ++ rest)))) := by rw [hd]; simp
      have d1 := drop_more d0
      have d2 := drop_more d1
      have d3 := drop_one d2
      have d4 := drop_more d3
      rw [lex_tok d0 tok_open ⟨fun h => absurd rfl h, fun e => absurd e (by decide)⟩, lex_tok d1 tok_not ⟨fun _ => offW_cons (by decide), fun e => absurd e (by decide)⟩, lex_blank d2 rfl,
        ih x hx d3 (offW_cons (by decide)), lex_tok d4 tok_shut ⟨fun h => absurd rfl h, fun e => absurd e (by decide)⟩, sgnT_one, txtT_one]
      simp only [List.length_cons, List.length_nil, List.length_append] at *
      have e3 : i + (0 + 1) + (0 + 1 + 1 + 1) + 1 + (txtT x).length + (0 + 1) = i + (0 + 1 + 1 + 1 + 1 + 1 + (txtT x).length + (0 + 1)) := by omega
      have e4 : i + (0 + 1) + (0 + 1 + 1 + 1) + 1 = i + 5 := by omega
      rw [e3, e4]
      simp
    · have : r' = r := by omega
      subst this
      have h8 : k ≠ 8 := by omega
      have tko := tok_op (k := k) (by omega)
      have hno : ¬ signK k = [61] := by
        have : k = 3 ∨ k = 4 ∨ k = 5 ∨ k = 6 ∨ k = 7 ∨ k = 9 := by omega
        rcases this with rfl | rfl | rfl | rfl | rfl | rfl <;> decide
      rw [txtT_two h1 h2 h8] at hd
      have d0 : s.data.toList.drop i = [40] ++ (txtT x ++ (32 :: (signK k ++ (32 :: (txtT y ++ ([41] ++ rest)))))) := by rw [hd]; simp
      have d1 := drop_more d0
      have d2 := drop_more d1
      have d3 := drop_one d2
      have d4 := drop_more d3
      have d5 := drop_one d4
      have d6 := drop_more d5
      rw [lex_tok d0 tok_open ⟨fun h => absurd rfl h, fun e => absurd e (by decide)⟩, ih x hx d1 (offW_cons (by decide)), lex_blank d2 rfl,
        lex_tok d3 tko ⟨fun _ => offW_cons (by decide), fun e => absurd e hno⟩, lex_blank d4 rfl,
        ih y hy d5 (offW_cons (by decide)), lex_tok d6 tok_shut ⟨fun h => absurd rfl h, fun e => absurd e (by decide)⟩, sgnT_two h1 h2 h8, txtT_two h1 h2 h8]
      have e5 : signB k = ⟨(signK k).toArray⟩ := rfl
      rw [e5]
      simp only [List.length_cons, List.length_nil, List.length_append, Nat.zero_add] at *
      have e3 : i + 1 + (txtT x).length + 1 + (signK k).length + 1 + (txtT y).length + 1 = i + (1 + (txtT x).length + (1 + (signK k).length + 1) + (txtT y).length + 1) := by omega
      rw [e3]
      simp
end Go.Proofs.YtefcdpkficojgaaDoor
