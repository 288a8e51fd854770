/- Several texts in one: Work, Txt, DecFacts, LexT, RdP, DecLaws. -/
import Derived.Test.YtdanlgmpgdipnaaDoorKd7
import Derived.Test.YtdanlgmpgdipnaaDoorKd8
import Derived.Test.YtdanlgmpgdipnaaDoorKd2
import Derived.Test.YtdanlgmpgdipnaaDoorKd3
import Derived.Test.YtdanlgmpgdipnaaDoorKd5
namespace Go.Proofs.YtdanlgmpgdipnaaDoor
open Go.RowKit
set_option linter.unusedVariables false



def signB (k : Int) : ByteArray := if k = 3 then ⟨#[43]⟩ else if k = 4 then ⟨#[45]⟩ else if k = 5 then ⟨#[42]⟩ else if k = 6 then ⟨#[60]⟩ else if k = 7 then ⟨#[61, 61]⟩ else ⟨#[97, 110, 100]⟩
theorem name_len {l : List UInt8} (h : isNameL l = true) : l.length ≤ 12 := by
  rcases Nat.lt_or_ge 12 l.length with h1 | h1
  · have := not_name _ (word_long l h1)
    rw [this] at h; cases h
  · exact h1


theorem at_of {s : ByteArray} {i : Nat} {c : UInt8} {r : List UInt8} (h : s.data.toList.drop i = c :: r) : ∃ hi : i < s.size, s[i] = c := by
  have hl := congrArg List.length h
  rw [List.length_drop, size_list, List.length_cons] at hl
  refine ⟨by omega, ?_⟩
  have := congrArg (fun l => l[0]?) h
  simp only [List.getElem?_drop, List.getElem?_cons_zero] at this
  rw [List.getElem?_eq_getElem (by rw [size_list]; omega)] at this
  exact Option.some.inj this
/-- a sign's text, by its kind -/
def Tok (k : Int) (x : List UInt8) : Prop :=
  (k = 1 ∧ ∃ c r, x = c :: r ∧ smallB (c.toNat : Int) = true ∧ x.all okC = true ∧ x.length ≤ 12) ∨
  (k = 2 ∧ ∃ c r, x = c :: r ∧ smallB (c.toNat : Int) = false ∧ figB (c.toNat : Int) = true ∧ x.all okC = true ∧ (readD ⟨x.toArray⟩).2 = true) ∨
  (k = 3 ∧ isMarkL x = true)
theorem mark_cases {x : List UInt8} (h : isMarkL x = true) : x = [61, 61] ∨ x = [61] ∨ (∃ c, x = [c] ∧ c.toNat ≠ 61 ∧ smallB (c.toNat : Int) = false ∧ figB (c.toNat : Int) = false ∧ blankB c = false) := by
  unfold isMarkL at h
  simp only [Bool.or_eq_true, beq_iff_eq] at h
  rcases h with ((((((((((h | h) | h) | h) | h) | h) | h) | h) | h) | h) | h) | h <;> subst h
  all_goals first | exact .inl rfl | exact .inr (.inl rfl) | exact .inr (.inr ⟨_, rfl, by decide, by decide, by decide, by decide⟩)
/- the other way: the signs of a text are such, and each lies where it says -/
theorem drop_cut {s : ByteArray} {i e : Nat} (h1 : i ≤ e) (h2 : e ≤ s.size) : s.data.toList.drop i = (s.extract i e).data.toList ++ s.data.toList.drop e ∧ (s.extract i e).data.toList.length = e - i := by
  have hl : (s.extract i e).data.toList.length = e - i := by rw [ext_list, List.length_take, List.length_drop, size_list]; omega
  refine ⟨?_, hl⟩
  rw [ext_list]
  have : s.data.toList.drop e = (s.data.toList.drop i).drop (e - i) := by rw [List.drop_drop]; congr 1; omega
  rw [this, List.take_append_drop]
theorem run_ext {s : ByteArray} {i : Nat} (hi : i < s.size) (h : okAt s i = true) : ∃ r, (s.extract i (runE s i)).data.toList = s[i] :: r ∧ (s.extract i (runE s i)).data.toList.all okC = true := by
  obtain ⟨b1, b2⟩ := runE_bd hi h
  obtain ⟨e1, e2⟩ := drop_cut (s := s) (i := i) (e := runE s i) (by omega) b2
  have hall : (s.extract i (runE s i)).data.toList.all okC = true := by
    rw [List.all_eq_true]
    intro c hc
    obtain ⟨j, hj, rfl⟩ := List.getElem_of_mem hc
    have hj2 : j < runE s i - i := by rw [← e2]; exact hj
    have := runE_all s _ i (Nat.le_refl _) (i + j) (by omega) (by omega)
    rw [okAt_lt (by omega)] at this
    have e3 := congrArg (fun l => l[j]?) e1
    simp only [List.getElem?_drop] at e3
    rw [List.getElem?_append_left hj, List.getElem?_eq_getElem hj, List.getElem?_eq_getElem (by rw [size_list]; omega)] at e3
    rw [← Option.some.inj e3]; exact this
  cases hx : (s.extract i (runE s i)).data.toList with
  | nil => rw [hx, List.length_nil] at e2; omega
  | cons c r =>
    rw [hx, List.cons_append] at e1
    obtain ⟨_, e4⟩ := at_of e1
    rw [e4]
    rw [hx] at hall
    exact ⟨r, rfl, hall⟩
theorem tok_of {s : ByteArray} {i : Nat} (hi : i < s.size) (h : (signP s i hi).2.2 = true) : Tok (signP s i hi).1 (s.extract i (signP s i hi).2.1).data.toList := by
  unfold signP at h ⊢
  by_cases c1 : smallB (s[i].toNat : Int) = true
  · rw [if_pos c1] at h ⊢
    have ho : okAt s i = true := by rw [okAt_lt hi, okC_or, c1]; rfl
    obtain ⟨r, e1, e2⟩ := run_ext hi ho
    obtain ⟨b1, b2⟩ := runE_bd hi ho
    have hl := (drop_cut (s := s) (i := i) (e := runE s i) (by omega) b2).2
    simp only [decide_eq_true_eq] at h
    exact .inl ⟨rfl, s[i], r, e1, c1, e2, by rw [hl]; exact h⟩
  rw [if_neg c1] at h ⊢
  by_cases c2 : figB (s[i].toNat : Int) = true
  · rw [if_pos c2] at h ⊢
    have ho : okAt s i = true := by rw [okAt_lt hi, okC_or, c2]; simp
    obtain ⟨r, e1, e2⟩ := run_ext hi ho
    refine .inr (.inl ⟨rfl, s[i], r, e1, bool_no c1, c2, e2, ?_⟩)
    simp only at h ⊢
    exact h
  rw [if_neg c2] at h ⊢
  refine .inr (.inr ⟨rfl, ?_⟩)
  simp only at h ⊢
  unfold markB at h
  rw [Lib.toList_data] at h
  exact h
structure Good (s : ByteArray) (g : Sg) : Prop where
  tok : Tok g.k g.t.data.toList
  here : g.p + g.t.size ≤ s.size ∧ s.extract g.p (g.p + g.t.size) = g.t
theorem lexS_good (s : ByteArray) (n : Nat) : ∀ i acc, s.size - i ≤ n → (∀ g ∈ acc, Good s g) → ∀ g ∈ (lexS s i acc).1, Good s g := by
  induction n with
  | zero => intro i acc h ha; rw [lexS_end (by omega)]; exact ha
  | succ n ih =>
    intro i acc h ha
    by_cases h1 : i < s.size
    · cases hb : blankB s[i] with
      | true => rw [lexS_blank h1 hb]; exact ih (i + 1) acc (by omega) ha
      | false =>
        cases ho : (signP s i h1).2.2 with
        | true =>
          rw [lexS_sign h1 hb ho]
          have hbd := signP_bd s i h1
          refine ih _ _ (by omega) ?_
          intro g hg
          rcases List.mem_append.1 hg with hg | hg
          · exact ha g hg
          · rw [List.mem_singleton] at hg
            subst hg
            have hl := (drop_cut (s := s) (i := i) (e := (signP s i h1).2.1) (by omega) hbd.2).2
            rw [size_list] at hl
            refine ⟨tok_of h1 ho, ?_, ?_⟩
            · simp only; omega
            · simp only; rw [hl, show i + ((signP s i h1).2.1 - i) = (signP s i h1).2.1 from by omega]
        | false => rw [lexS_bad h1 hb ho]; intro g hg; cases hg
    · rw [lexS_end h1]; exact ha

def sg0 : Sg := ⟨0, ⟨#[]⟩, 0⟩
def sgAt (L : List Sg) (i : Nat) : Sg := (L[i]?).getD sg0
def tx (L : List Sg) (i : Nat) : ByteArray := (sgAt L i).t
def nmB (L : List Sg) (i : Nat) : Bool := isNameL (tx L i).data.toList
/-- where a fault at the i-th sign stands: at the text's end behind the last one -/
def posAt (L : List Sg) (n i : Nat) : Nat := ((L[i]?).map fun g => g.p).getD n
theorem sgAt_lt {L : List Sg} {i : Nat} (h : i < L.length) : sgAt L i = L[i] := by unfold sgAt; rw [List.getElem?_eq_getElem h]; rfl
theorem sgAt_ge {L : List Sg} {i : Nat} (h : ¬ i < L.length) : sgAt L i = sg0 := by unfold sgAt; rw [List.getElem?_eq_none (by omega)]; rfl
theorem posAt_lt {L : List Sg} {n i : Nat} (h : i < L.length) : posAt L n i = L[i].p := by unfold posAt; rw [List.getElem?_eq_getElem h]; rfl
theorem posAt_ge {L : List Sg} {n i : Nat} (h : ¬ i < L.length) : posAt L n i = n := by unfold posAt; rw [List.getElem?_eq_none (by omega)]; rfl
theorem tx_lt {L : List Sg} {i : Nat} (h : i < L.length) : tx L i = L[i].t := by unfold tx; rw [sgAt_lt h]
theorem tx_ge {L : List Sg} {i : Nat} (h : ¬ i < L.length) : tx L i = ⟨#[]⟩ := by unfold tx; rw [sgAt_ge h]; rfl
theorem nmB_ge {L : List Sg} {i : Nat} (h : ¬ i < L.length) : nmB L i = false := by unfold nmB; rw [tx_ge h]; decide
/-- what reading yields: a fault and its place, or what was read and the sign behind it -/
inductive Got (α : Type) where
  | bad (c : Int) (p : Nat)
  | ok (a : α) (i : Nat)
def kindOf (t : ByteArray) : Int := if t = ⟨#[43]⟩ then 3 else if t = ⟨#[45]⟩ then 4 else if t = ⟨#[42]⟩ then 5 else if t = ⟨#[60]⟩ then 6 else if t = ⟨#[61, 61]⟩ then 7 else if t = ⟨#[97, 110, 100]⟩ then 9 else 0
theorem kindOf_cases (t : ByteArray) : kindOf t = 0 ∨ ((kindOf t = 3 ∨ kindOf t = 4 ∨ kindOf t = 5 ∨ kindOf t = 6 ∨ kindOf t = 7 ∨ kindOf t = 9)) := by
  unfold kindOf
  repeat' split
  all_goals simp
def closeT (L : List Sg) (n : Nat) (t : Tm) (q : Nat) : Got Tm := if tx L q = ⟨#[41]⟩ then .ok t (q + 1) else .bad 3 (posAt L n q)
def innT (L : List Sg) (n : Nat) (rd : Nat → Got Tm) (i : Nat) : Got Tm :=
  if tx L i = ⟨#[110, 111, 116]⟩ then
    match rd (i + 1) with
    | .bad c p => .bad c p
    | .ok x q => closeT L n (.mk 8 0 ⟨#[]⟩ [x]) q
  else
    match rd i with
    | .bad c p => .bad c p
    | .ok a q =>
      if kindOf (tx L q) = 0 then .bad 3 (posAt L n q) else
        match rd (q + 1) with
        | .bad c p => .bad c p
        | .ok b q2 => closeT L n (.mk (kindOf (tx L q)) 0 ⟨#[]⟩ [a, b]) q2
def leafT (L : List Sg) (n i : Nat) (inner : Got Tm) : Got Tm :=
  if (sgAt L i).k = 2 then .ok (.mk 1 (readD (tx L i)).1 ⟨#[]⟩ []) (i + 1)
  else if nmB L i = true then .ok (.mk 2 0 (tx L i) []) (i + 1)
  else if tx L i = ⟨#[40]⟩ then inner else .bad 3 (posAt L n i)
def rdT (L : List Sg) (n : Nat) : Nat → Nat → Got Tm
  | 0, i => leafT L n i (.bad 4 (posAt L n i))
  | r + 1, i => leafT L n i (innT L n (rdT L n r) (i + 1))
theorem leafT_num {L : List Sg} {n i : Nat} {g : Got Tm} (h : (sgAt L i).k = 2) : leafT L n i g = .ok (.mk 1 (readD (tx L i)).1 ⟨#[]⟩ []) (i + 1) := by unfold leafT; rw [if_pos h]
theorem leafT_var {L : List Sg} {n i : Nat} {g : Got Tm} (h : ¬ (sgAt L i).k = 2) (h2 : nmB L i = true) : leafT L n i g = .ok (.mk 2 0 (tx L i) []) (i + 1) := by unfold leafT; rw [if_neg h, if_pos h2]
theorem leafT_in {L : List Sg} {n i : Nat} {g : Got Tm} (h : ¬ (sgAt L i).k = 2) (h2 : nmB L i = false) (h3 : tx L i = ⟨#[40]⟩) : leafT L n i g = g := by unfold leafT; rw [if_neg h, if_neg (by rw [h2]; decide), if_pos h3]
theorem leafT_bad {L : List Sg} {n i : Nat} {g : Got Tm} (h : ¬ (sgAt L i).k = 2) (h2 : nmB L i = false) (h3 : ¬ tx L i = ⟨#[40]⟩) : leafT L n i g = .bad 3 (posAt L n i) := by unfold leafT; rw [if_neg h, if_neg (by rw [h2]; decide), if_neg h3]
/-- a sign that is there -/
theorem there_of {L : List Sg} {i : Nat} (h : tx L i ≠ ⟨#[]⟩) : i < L.length := by
  rcases Nat.lt_or_ge i L.length with h1 | h1
  · exact h1
  · exact absurd (tx_ge (by omega)) h
theorem there_k {L : List Sg} {i : Nat} (h : (sgAt L i).k = 2) : i < L.length := by
  rcases Nat.lt_or_ge i L.length with h1 | h1
  · exact h1
  · rw [sgAt_ge (by omega)] at h; exact absurd h (by decide)
theorem there_n {L : List Sg} {i : Nat} (h : nmB L i = true) : i < L.length := by
  rcases Nat.lt_or_ge i L.length with h1 | h1
  · exact h1
  · rw [nmB_ge (by omega)] at h; cases h
theorem kindOf_empty : kindOf ⟨#[]⟩ = 0 := by decide
theorem there_kind {L : List Sg} {i : Nat} (h : ¬ kindOf (tx L i) = 0) : i < L.length := there_of fun e => h (by rw [e, kindOf_empty])
theorem closeT_ok {L : List Sg} {n q : Nat} {t t' : Tm} {q' : Nat} (h : closeT L n t q = .ok t' q') : t' = t ∧ q' = q + 1 ∧ q < L.length := by
  unfold closeT at h
  split at h
  · next h1 => injection h with h2 h3; exact ⟨h2.symm, h3.symm, there_of (by rw [h1]; decide)⟩
  · cases h
/-- a term that was read lies ahead of the sign behind it -/
theorem rdT_lt (L : List Sg) (n r : Nat) : ∀ i t q, rdT L n r i = .ok t q → i < q ∧ q ≤ L.length := by
  have leaf : ∀ i t q g, (∀ t q, g = .ok t q → i < q ∧ q ≤ L.length) → leafT L n i g = .ok t q → i < q ∧ q ≤ L.length := by
    intro i t q g hg h
    unfold leafT at h
    split at h
    · next h1 => injection h with _ h; have := there_k h1; omega
    · split at h
      · next h1 => injection h with _ h; have := there_n h1; omega
      · split at h
        · exact hg _ _ h
        · cases h
  induction r with
  | zero => intro i t q h; rw [rdT] at h; exact leaf i t q _ (fun _ _ h => by cases h) h
  | succ r ih =>
    intro i t q h
    rw [rdT] at h
    refine leaf i t q _ ?_ h
    intro t q h
    unfold innT at h
    split at h
    · split at h
      · cases h
      · next x q1 h1 =>
        have := ih _ _ _ h1
        obtain ⟨_, h2, h3⟩ := closeT_ok h
        omega
    · split at h
      · cases h
      · next a q1 h1 =>
        have := ih _ _ _ h1
        split at h
        · cases h
        · next hk =>
          split at h
          · cases h
          · next b q2 h2 =>
            have := ih _ _ _ h2
            obtain ⟨_, h2, h3⟩ := closeT_ok h
            omega

/-- the library's table of powers lies as its initialiser lays it -/
def TabW (w : World) : Prop := Lib.TabIs Tryd.prog w "internal/strconv.uint64pow10" .u64 Lib.pow10Tab
theorem TabW.below {w w' : World} (h : TabW w) (hb : Below w.heap.size w w') : TabW w' := by
  unfold TabW Lib.TabIs World.var? at *
  cases hg : Tryd.prog.globalNamed "internal/strconv.uint64pow10" with
  | none => simp [hg] at h
  | some g =>
    simp only [hg, Option.bind_some] at h ⊢
    have hlt : g < w.heap.size := by
      rcases Nat.lt_or_ge g w.heap.size with h1 | h1
      · exact h1
      · rw [Array.getElem?_eq_none h1] at h; simp at h
    rw [hb.block g hlt]
    exact h
end Go.Proofs.YtdanlgmpgdipnaaDoor
