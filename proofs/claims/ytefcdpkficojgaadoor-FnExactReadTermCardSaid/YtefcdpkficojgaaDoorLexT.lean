/- Signs and what stands behind them: a sign's text comes back as the sign. Plain. -/
import Derived.Test.YtefcdpkficojgaaDoorLexQ
import Derived.Test.YtefcdpkficojgaaDoorTxt
import Derived.Test.YtefcdpkficojgaaDoorDecFacts
namespace Go.Proofs.YtefcdpkficojgaaDoor
open Go.RowKit
set_option linter.unusedVariables false

/-- what stands behind a word: no letter, no figure -/
def offW (l : List UInt8) : Prop := ∀ c r, l = c :: r → okC c = false
def offE (l : List UInt8) : Prop := ∀ c r, l = c :: r → c.toNat ≠ 61
theorem offW_nil : offW [] := fun _ _ h => by cases h
theorem offW_cons {c : UInt8} {r : List UInt8} (h : okC c = false) : offW (c :: r) := fun _ _ e => by cases e; exact h
theorem offE_nil : offE [] := fun _ _ h => by cases h
theorem offE_cons {c : UInt8} {r : List UInt8} (h : c.toNat ≠ 61) : offE (c :: r) := fun _ _ e => by cases e; exact h
theorem at_of {s : ByteArray} {i : Nat} {c : UInt8} {r : List UInt8} (h : s.data.toList.drop i = c :: r) : ∃ hi : i < s.size, s[i] = c := by
  have hl := congrArg List.length h
  rw [List.length_drop, size_list, List.length_cons] at hl
  refine ⟨by omega, ?_⟩
  have := congrArg (fun l => l[0]?) h
  simp only [List.getElem?_drop, List.getElem?_cons_zero] at this
  rw [List.getElem?_eq_getElem (by rw [size_list]; omega)] at this
  exact Option.some.inj this
theorem end_of {s : ByteArray} {i : Nat} (h : s.data.toList.drop i = []) : ¬ i < s.size := by
  have hl := congrArg List.length h
  rw [List.length_drop, size_list, List.length_nil] at hl
  omega
theorem drop_more {s : ByteArray} {i : Nat} {a b : List UInt8} (h : s.data.toList.drop i = a ++ b) : s.data.toList.drop (i + a.length) = b := by
  rw [← List.drop_drop, h, List.drop_left]
theorem ext_of {s : ByteArray} {i : Nat} {a b : List UInt8} (h : s.data.toList.drop i = a ++ b) : s.extract i (i + a.length) = ⟨a.toArray⟩ := by
  apply str_ext
  rw [ext_list, h, Nat.add_sub_cancel_left, List.take_left]
theorem run_of {s : ByteArray} (a : List UInt8) : ∀ {i : Nat} {b : List UInt8}, s.data.toList.drop i = a ++ b → a.all okC = true → offW b → runE s i = i + a.length := by
  induction a with
  | nil =>
    intro i b h _ ho
    rw [List.nil_append] at h
    refine runE_no ?_
    cases b with
    | nil => exact okAt_ge (end_of h)
    | cons c r =>
      obtain ⟨hi, e⟩ := at_of h
      rw [okAt_lt hi, e]; exact ho c r rfl
  | cons c r ih =>
    intro i b h ha ho
    rw [List.all_cons, Bool.and_eq_true] at ha
    rw [List.cons_append] at h
    obtain ⟨hi, e⟩ := at_of h
    have h2 : s.data.toList.drop (i + 1) = r ++ b := drop_more (a := [c]) h
    rw [runE_yes (by rw [okAt_lt hi, e]; exact ha.1), ih h2 ha.2 ho, List.length_cons]
    omega
/-- a sign's text, by its kind -/
def Tok (k : Int) (x : List UInt8) : Prop :=
  (k = 1 ∧ ∃ c r, x = c :: r ∧ smallB (c.toNat : Int) = true ∧ x.all okC = true ∧ x.length ≤ 12) ∨
  (k = 2 ∧ ∃ c r, x = c :: r ∧ smallB (c.toNat : Int) = false ∧ figB (c.toNat : Int) = true ∧ x.all okC = true ∧ (readD ⟨x.toArray⟩).2 = true) ∨
  (k = 3 ∧ isMarkL x = true)
def Sep (k : Int) (x rest : List UInt8) : Prop := (k ≠ 3 → offW rest) ∧ (x = [61] → offE rest)
theorem mark_cases {x : List UInt8} (h : isMarkL x = true) : x = [61, 61] ∨ x = [61] ∨ (∃ c, x = [c] ∧ c.toNat ≠ 61 ∧ smallB (c.toNat : Int) = false ∧ figB (c.toNat : Int) = false ∧ blankB c = false) := by
  unfold isMarkL at h
  simp only [Bool.or_eq_true, beq_iff_eq] at h
  rcases h with ((((((((((h | h) | h) | h) | h) | h) | h) | h) | h) | h) | h) | h <;> subst h
  all_goals first | exact .inl rfl | exact .inr (.inl rfl) | exact .inr (.inr ⟨_, rfl, by decide, by decide, by decide, by decide⟩)
theorem blank_small {c : UInt8} (h : smallB (c.toNat : Int) = true) : blankB c = false := by
  unfold smallB at h
  simp at h
  unfold blankB
  rw [decide_eq_false (by omega), decide_eq_false (by omega), decide_eq_false (by omega), decide_eq_false (by omega)]; rfl
theorem blank_fig {c : UInt8} (h : figB (c.toNat : Int) = true) : blankB c = false := by
  unfold figB at h
  simp at h
  unfold blankB
  rw [decide_eq_false (by omega), decide_eq_false (by omega), decide_eq_false (by omega), decide_eq_false (by omega)]; rfl
theorem two_no {s : ByteArray} {i : Nat} (hi : i < s.size) (h : s[i].toNat ≠ 61) : eqTwo s i = false := by
  unfold eqTwo; split
  · rw [decide_eq_false h]; rfl
  · rfl
theorem sign_tok {s : ByteArray} {i : Nat} {k : Int} {x rest : List UInt8} (hd : s.data.toList.drop i = x ++ rest) (t : Tok k x) (sep : Sep k x rest) :
    ∃ hi : i < s.size, blankB s[i] = false ∧ signP s i hi = (k, i + x.length, true) := by
  rcases t with ⟨rfl, c, r, hx, h1, h2, h3⟩ | ⟨rfl, c, r, hx, h1, h1', h2, h3⟩ | ⟨rfl, hm⟩
  · have hd' : s.data.toList.drop i = c :: (r ++ rest) := by rw [hd, hx]; rfl
    obtain ⟨hi, e⟩ := at_of hd'
    have hr := run_of x hd h2 (sep.1 (by decide))
    refine ⟨hi, by rw [e]; exact blank_small h1, ?_⟩
    unfold signP
    rw [e, if_pos h1, hr, decide_eq_true (by omega)]
  · have hd' : s.data.toList.drop i = c :: (r ++ rest) := by rw [hd, hx]; rfl
    obtain ⟨hi, e⟩ := at_of hd'
    have hr := run_of x hd h2 (sep.1 (by decide))
    refine ⟨hi, by rw [e]; exact blank_fig h1', ?_⟩
    unfold signP
    rw [e, if_neg (by rw [h1]; decide), if_pos h1', hr, ext_of hd, h3]
  · rcases mark_cases hm with rfl | rfl | ⟨c, rfl, hc, s1, s2, s3⟩
    · obtain ⟨hi, e⟩ := at_of (c := 61) (r := 61 :: rest) hd
      obtain ⟨hi2, e2⟩ := at_of (c := 61) (r := rest) (drop_more (a := [61]) (b := 61 :: rest) hd)
      have et : eqTwo s i = true := by
        unfold eqTwo
        rw [dif_pos (show i + 1 < s.size from hi2), e]
        have e2' : s[i + 1] = 61 := e2
        rw [e2']; rfl
      refine ⟨hi, by rw [e]; rfl, ?_⟩
      unfold signP
      rw [e, if_neg (by decide), if_neg (by decide), if_pos et]
      have := ext_of hd
      simp only [List.length_cons, List.length_nil] at this ⊢
      rw [this]
      unfold markB
      rw [Lib.toList_data]
      rfl
    · obtain ⟨hi, e⟩ := at_of (c := 61) (r := rest) hd
      have et : eqTwo s i = false := by
        unfold eqTwo
        split
        · rename_i h2
          have hd2 := drop_more (a := [61]) (b := rest) hd
          cases rest with
          | nil => have := end_of hd2; simp at this; omega
          | cons c2 r2 =>
            obtain ⟨hi2, e2⟩ := at_of hd2
            have e2' : s[i + 1] = c2 := e2
            rw [e2', decide_eq_false (p := c2.toNat = 61) (sep.2 rfl c2 r2 rfl), Bool.and_false]
        · rfl
      refine ⟨hi, by rw [e]; rfl, ?_⟩
      unfold signP
      rw [e, if_neg (by decide), if_neg (by decide), if_neg (by rw [et]; decide)]
      have := ext_of hd
      simp only [List.length_cons, List.length_nil] at this ⊢
      rw [this]
      unfold markB
      rw [Lib.toList_data]
      rfl
    · obtain ⟨hi, e⟩ := at_of (c := c) (r := rest) hd
      have et : eqTwo s i = false := two_no hi (by rw [e]; exact hc)
      refine ⟨hi, by rw [e]; exact s3, ?_⟩
      unfold signP
      rw [e, if_neg (by rw [s1]; decide), if_neg (by rw [s2]; decide), if_neg (by rw [et]; decide)]
      have := ext_of hd
      simp only [List.length_cons, List.length_nil] at this ⊢
      rw [this]
      unfold markB
      rw [Lib.toList_data]
      show (3, i + 1, isMarkL [c]) = _
      rw [hm]
/-- a sign's text comes back as the sign -/
theorem lex_tok {s : ByteArray} {i : Nat} {k : Int} {x rest : List UInt8} {acc : List Sg} (hd : s.data.toList.drop i = x ++ rest) (t : Tok k x) (sep : Sep k x rest) :
    lexS s i acc = lexS s (i + x.length) (acc ++ [⟨k, ⟨x.toArray⟩, i⟩]) := by
  obtain ⟨hi, hb, hs⟩ := sign_tok hd t sep
  rw [lexS_sign hi hb (by rw [hs]), hs]
  simp only
  rw [ext_of hd]
theorem lex_blank {s : ByteArray} {i : Nat} {c : UInt8} {rest : List UInt8} {acc : List Sg} (hd : s.data.toList.drop i = c :: rest) (hb : blankB c = true) : lexS s i acc = lexS s (i + 1) acc := by
  obtain ⟨hi, e⟩ := at_of hd
  exact lexS_blank hi (by rw [e]; exact hb)
theorem lex_end {s : ByteArray} {i : Nat} {acc : List Sg} (hd : s.data.toList.drop i = []) : lexS s i acc = (acc, 0, 0) := lexS_end (end_of hd)
/- the other way: the signs of a text are such, and each lies where it says -/
theorem drop_cut {s : ByteArray} {i e : Nat} (h1 : i ≤ e) (h2 : e ≤ s.size) : s.data.toList.drop i = (s.extract i e).data.toList ++ s.data.toList.drop e ∧ (s.extract i e).data.toList.length = e - i := by
  have hl : (s.extract i e).data.toList.length = e - i := by rw [ext_list, List.length_take, List.length_drop, size_list]; omega
  refine ⟨?_, hl⟩
  rw [ext_list]
  have : s.data.toList.drop e = (s.data.toList.drop i).drop (e - i) := by rw [List.drop_drop]; congr 1; omega
  rw [this, List.take_append_drop]
theorem run_ext {s : ByteArray} {i : Nat} (hi : i < s.size) (h : okAt s i = true) : ∃ r, (s.extract i (runE s i)).data.toList = s[i] :: r ∧ (s.extract i (runE s i)).data.toList.all okC = true := by
  obtain ⟨b1, b2⟩ := runE_bd hi h
  obtain ⟨e1, e2⟩ := drop_cut (s := s) (i := i) (e := runE s i) (by omega) b2
  have hall : (s.extract i (runE s i)).data.toList.all okC = true := by
    rw [List.all_eq_true]
    intro c hc
    obtain ⟨j, hj, rfl⟩ := List.getElem_of_mem hc
    have hj2 : j < runE s i - i := by rw [← e2]; exact hj
    have := runE_all s _ i (Nat.le_refl _) (i + j) (by omega) (by omega)
    rw [okAt_lt (by omega)] at this
    have e3 := congrArg (fun l => l[j]?) e1
    simp only [List.getElem?_drop] at e3
    rw [List.getElem?_append_left hj, List.getElem?_eq_getElem hj, List.getElem?_eq_getElem (by rw [size_list]; omega)] at e3
    rw [← Option.some.inj e3]; exact this
  cases hx : (s.extract i (runE s i)).data.toList with
  | nil => rw [hx, List.length_nil] at e2; omega
  | cons c r =>
    rw [hx, List.cons_append] at e1
    obtain ⟨_, e4⟩ := at_of e1
    rw [e4]
    rw [hx] at hall
    exact ⟨r, rfl, hall⟩
theorem tok_of {s : ByteArray} {i : Nat} (hi : i < s.size) (h : (signP s i hi).2.2 = true) : Tok (signP s i hi).1 (s.extract i (signP s i hi).2.1).data.toList := by
  unfold signP at h ⊢
  by_cases c1 : smallB (s[i].toNat : Int) = true
  · rw [if_pos c1] at h ⊢
    have ho : okAt s i = true := by rw [okAt_lt hi, okC_or, c1]; rfl
    obtain ⟨r, e1, e2⟩ := run_ext hi ho
    obtain ⟨b1, b2⟩ := runE_bd hi ho
    have hl := (drop_cut (s := s) (i := i) (e := runE s i) (by omega) b2).2
    simp only [decide_eq_true_eq] at h
    exact .inl ⟨rfl, s[i], r, e1, c1, e2, by rw [hl]; exact h⟩
  rw [if_neg c1] at h ⊢
  by_cases c2 : figB (s[i].toNat : Int) = true
  · rw [if_pos c2] at h ⊢
    have ho : okAt s i = true := by rw [okAt_lt hi, okC_or, c2]; simp
    obtain ⟨r, e1, e2⟩ := run_ext hi ho
    refine .inr (.inl ⟨rfl, s[i], r, e1, bool_no c1, c2, e2, ?_⟩)
    simp only at h ⊢
    exact h
  rw [if_neg c2] at h ⊢
  refine .inr (.inr ⟨rfl, ?_⟩)
  simp only at h ⊢
  unfold markB at h
  rw [Lib.toList_data] at h
  exact h
structure Good (s : ByteArray) (g : Sg) : Prop where
  tok : Tok g.k g.t.data.toList
  here : g.p + g.t.size ≤ s.size ∧ s.extract g.p (g.p + g.t.size) = g.t
theorem lexS_good (s : ByteArray) (n : Nat) : ∀ i acc, s.size - i ≤ n → (∀ g ∈ acc, Good s g) → ∀ g ∈ (lexS s i acc).1, Good s g := by
  induction n with
  | zero => intro i acc h ha; rw [lexS_end (by omega)]; exact ha
  | succ n ih =>
    intro i acc h ha
    by_cases h1 : i < s.size
    · cases hb : blankB s[i] with
      | true => rw [lexS_blank h1 hb]; exact ih (i + 1) acc (by omega) ha
      | false =>
        cases ho : (signP s i h1).2.2 with
        | true =>
          rw [lexS_sign h1 hb ho]
          have hbd := signP_bd s i h1
          refine ih _ _ (by omega) ?_
          intro g hg
          rcases List.mem_append.1 hg with hg | hg
          · exact ha g hg
          · rw [List.mem_singleton] at hg
            subst hg
            have hl := (drop_cut (s := s) (i := i) (e := (signP s i h1).2.1) (by omega) hbd.2).2
            rw [size_list] at hl
            refine ⟨tok_of h1 ho, ?_, ?_⟩
            · simp only; omega
            · simp only; rw [hl, show i + ((signP s i h1).2.1 - i) = (signP s i h1).2.1 from by omega]
        | false => rw [lexS_bad h1 hb ho]; intro g hg; cases hg
    · rw [lexS_end h1]; exact ha
/-- signs told with blanks between them -/
def spT : List Sg → List UInt8
  | [] => []
  | g :: r => 32 :: 10 :: (g.t.data.toList ++ spT r)
def spS : List Sg → Nat → List Sg
  | [], _ => []
  | g :: r, i => ⟨g.k, g.t, i + 2⟩ :: spS r (i + 2 + g.t.size)
theorem spT_off (l : List Sg) (rest : List UInt8) (h : offW rest ∧ offE rest) : offW (spT l ++ rest) ∧ offE (spT l ++ rest) := by
  cases l with
  | nil => exact h
  | cons g r => exact ⟨offW_cons (by decide), offE_cons (by decide)⟩
theorem lex_sp {s : ByteArray} (l : List Sg) : ∀ {i : Nat} {rest : List UInt8} {acc : List Sg}, s.data.toList.drop i = spT l ++ rest → (∀ g ∈ l, Tok g.k g.t.data.toList) → (offW rest ∧ offE rest) →
    lexS s i acc = lexS s (i + (spT l).length) (acc ++ spS l i) := by
  induction l with
  | nil => intro i rest acc _ _ _; simp [spT, spS]
  | cons g r ih =>
    intro i rest acc hd ht ho
    have hd1 : s.data.toList.drop i = 32 :: (10 :: (g.t.data.toList ++ (spT r ++ rest))) := by rw [hd]; simp [spT]
    have hd2 : s.data.toList.drop (i + 1) = 10 :: (g.t.data.toList ++ (spT r ++ rest)) := drop_more (a := [32]) hd1
    have hd3 : s.data.toList.drop (i + 1 + 1) = g.t.data.toList ++ (spT r ++ rest) := drop_more (a := [10]) hd2
    have ho2 := spT_off r rest ho
    rw [lex_blank hd1 rfl, lex_blank hd2 rfl, lex_tok hd3 (ht g (List.mem_cons_self)) ⟨fun _ => ho2.1, fun _ => ho2.2⟩, ih (drop_more hd3) (fun x hx => ht x (List.mem_cons_of_mem _ hx)) ho]
    have e1 : i + 1 + 1 + g.t.data.toList.length + (spT r).length = i + (spT (g :: r)).length := by simp [spT]; omega
    have e2 : acc ++ [⟨g.k, ⟨g.t.data.toList.toArray⟩, i + 1 + 1⟩] ++ spS r (i + 1 + 1 + g.t.data.toList.length) = acc ++ spS (g :: r) i := by
      rw [spS, size_list]; simp
    rw [e1, e2]
end Go.Proofs.YtefcdpkficojgaaDoor
