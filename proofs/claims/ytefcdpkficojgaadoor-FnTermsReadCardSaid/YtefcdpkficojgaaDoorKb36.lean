/- Several texts in one: RtPl, RdSp. -/
import Derived.Test.YtefcdpkficojgaaDoorKb35
import Derived.Test.YtefcdpkficojgaaDoorKb13
namespace Go.Proofs.YtefcdpkficojgaaDoor
open Go.RowKit
set_option linter.unusedVariables false


def kt (g : Sg) : Int × ByteArray := (g.k, g.t)
def joinK (k : Int) (f g : List (Int × ByteArray)) : List (Int × ByteArray) :=
  if k = 8 then [(3, ⟨#[40]⟩), (1, ⟨#[110, 111, 116]⟩)] ++ f ++ [(3, ⟨#[41]⟩)] else [(3, ⟨#[40]⟩)] ++ f ++ [(opKd k, signB k)] ++ g ++ [(3, ⟨#[41]⟩)]
mutual
def ktT : Tm → List (Int × ByteArray)
  | .mk k n s kids => if k = 1 then [(2, ⟨(Lib.itoa n).toArray⟩)] else if k = 2 then [(1, s)] else joinK k ((ktTs kids)[0]?.getD []) ((ktTs kids)[1]?.getD [])
def ktTs : List Tm → List (List (Int × ByteArray))
  | [] => []
  | t :: r => ktT t :: ktTs r
end
theorem ktT_num {n : Int} {s : ByteArray} {kids : List Tm} : ktT (.mk 1 n s kids) = [(2, ⟨(Lib.itoa n).toArray⟩)] := by rw [ktT, if_pos rfl]
theorem ktT_var {n : Int} {s : ByteArray} {kids : List Tm} : ktT (.mk 2 n s kids) = [(1, s)] := by rw [ktT, if_neg (by decide), if_pos rfl]
theorem ktT_one {n : Int} {s : ByteArray} {x : Tm} : ktT (.mk 8 n s [x]) = [(3, ⟨#[40]⟩), (1, ⟨#[110, 111, 116]⟩)] ++ ktT x ++ [(3, ⟨#[41]⟩)] := by
  rw [ktT, if_neg (by decide), if_neg (by decide), joinK, if_pos rfl]; simp [ktTs]
theorem ktT_two {k n : Int} {s : ByteArray} {x y : Tm} (h1 : k ≠ 1) (h2 : k ≠ 2) (h8 : k ≠ 8) : ktT (.mk k n s [x, y]) = [(3, ⟨#[40]⟩)] ++ ktT x ++ [(opKd k, signB k)] ++ ktT y ++ [(3, ⟨#[41]⟩)] := by
  rw [ktT, if_neg h1, if_neg h2, joinK, if_neg h8]; simp [ktTs]
theorem sgn_kt (r : Nat) : ∀ t, okT r t = true → ∀ i, (sgnT t i).map kt = ktT t := by
  induction r with
  | zero =>
    intro t h i
    obtain ⟨k, n, s, kids⟩ := t
    by_cases h1 : k = 1
    · subst h1; rw [sgnT_num, ktT_num]; rfl
    by_cases h2 : k = 2
    · subst h2; rw [sgnT_var, ktT_var]; rfl
    rw [okT_zero (beq_eq_false_iff_ne.2 h1) (beq_eq_false_iff_ne.2 h2)] at h; cases h
  | succ r ih =>
    intro t h i
    obtain ⟨k, n, s, kids⟩ := t
    by_cases h1 : k = 1
    · subst h1; rw [sgnT_num, ktT_num]; rfl
    by_cases h2 : k = 2
    · subst h2; rw [sgnT_var, ktT_var]; rfl
    obtain ⟨r', he, ⟨rfl, x, rfl, hx⟩ | ⟨hk, x, y, rfl, hx, hy⟩⟩ := okT_kids h1 h2 h
    · have : r' = r := by omega
      subst this
      rw [sgnT_one, ktT_one, List.map_append, List.map_append, ih x hx]; rfl
    · have : r' = r := by omega
      subst this
      rw [sgnT_two h1 h2 (by omega), ktT_two h1 h2 (by omega), List.map_append, List.map_append, List.map_append, List.map_append, ih x hx, ih y hy]; rfl
/-- the signs from the i-th on begin so -/
def AtK (L : List Sg) (i : Nat) (ks : List (Int × ByteArray)) : Prop := ∃ rest, (L.drop i).map kt = ks ++ rest
theorem AtK.left {L : List Sg} {i : Nat} {a b : List (Int × ByteArray)} (h : AtK L i (a ++ b)) : AtK L i a := by
  obtain ⟨rest, h⟩ := h
  exact ⟨b ++ rest, by rw [h, List.append_assoc]⟩
theorem AtK.right {L : List Sg} {i : Nat} {a b : List (Int × ByteArray)} (h : AtK L i (a ++ b)) : AtK L (i + a.length) b := by
  obtain ⟨rest, h⟩ := h
  refine ⟨rest, ?_⟩
  rw [← List.drop_drop, List.map_drop, h, List.append_assoc, List.drop_left]
theorem AtK.one {L : List Sg} {i : Nat} {k : Int} {t : ByteArray} {r : List (Int × ByteArray)} (h : AtK L i ((k, t) :: r)) : i < L.length ∧ (sgAt L i).k = k ∧ tx L i = t := by
  obtain ⟨rest, h⟩ := h
  have hlt : i < L.length := by
    rcases Nat.lt_or_ge i L.length with h1 | h1
    · exact h1
    · rw [List.drop_eq_nil_of_le h1] at h; cases h
  have e : L.drop i = L[i] :: L.drop (i + 1) := List.drop_eq_getElem_cons hlt
  rw [e, List.map_cons, List.cons_append] at h
  injection h with h1 h2
  unfold tx
  rw [sgAt_lt hlt]
  unfold kt at h1
  injection h1 with h3 h4
  exact ⟨hlt, h3, h4⟩
theorem AtK.next {L : List Sg} {i : Nat} {g : Int × ByteArray} {r : List (Int × ByteArray)} (h : AtK L i (g :: r)) : AtK L (i + 1) r := AtK.right (a := [g]) h
theorem kindOf_op (k : Int) (hk : k = 3 ∨ k = 4 ∨ k = 5 ∨ k = 6 ∨ k = 7 ∨ k = 9) : kindOf (signB k) = k := by
  rcases hk with rfl | rfl | rfl | rfl | rfl | rfl <;> decide
theorem itoa_not {n : Int} (h0 : 0 ≤ n) (c : UInt8) (r : List UInt8) (hc : isDig c = false) : Lib.itoa n ≠ c :: r := by
  have e : Lib.itoa n = Lib.decDigits n.toNat := by
    unfold Lib.itoa; rw [if_neg (by omega)]
  have ha := (dec_facts n.toNat).2
  rw [← e] at ha
  intro e2
  rw [e2, List.all_cons, hc] at ha
  cases ha
/-- the first sign of a term is not "not" -/
theorem ktT_head (r : Nat) (t : Tm) (h : okT r t = true) : ∃ k x rest, ktT t = (k, x) :: rest ∧ x ≠ ⟨#[110, 111, 116]⟩ := by
  obtain ⟨k, n, s, kids⟩ := t
  by_cases h1 : k = 1
  · subst h1
    refine ⟨2, _, [], ktT_num, fun e => ?_⟩
    have := itoa_not (okT_num_bd h).1 110 [111, 116] (by decide)
    apply this
    have e2 := congrArg (fun b : ByteArray => b.data.toList) e
    simpa using e2
  by_cases h2 : k = 2
  · subst h2
    refine ⟨1, s, [], ktT_var, fun e => ?_⟩
    rw [okT_var] at h
    simp only [Bool.and_eq_true] at h
    rw [e] at h
    exact absurd h.1.2 (by decide)
  obtain ⟨r', he, ⟨rfl, x, rfl, hx⟩ | ⟨hk, x, y, rfl, hx, hy⟩⟩ := okT_kids h1 h2 h
  · exact ⟨3, ⟨#[40]⟩, _, by rw [ktT_one]; rfl, by decide⟩
  · exact ⟨3, ⟨#[40]⟩, _, by rw [ktT_two h1 h2 (by omega)]; rfl, by decide⟩
theorem AtK.head {L : List Sg} {i : Nat} {ks : List (Int × ByteArray)} {k : Int} {x : ByteArray} {r : List (Int × ByteArray)} (h : AtK L i ks) (e : ks = (k, x) :: r) : tx L i = x := by rw [e] at h; exact h.one.2.2
theorem nmB_of {L : List Sg} {i : Nat} {x : ByteArray} (h : tx L i = x) : nmB L i = isNameL x.data.toList := by unfold nmB; rw [h]
/-- a right term is read from its signs -/
theorem rdT_parse (L : List Sg) (n r : Nat) : ∀ t, okT r t = true → ∀ i, AtK L i (ktT t) → rdT L n r i = .ok t (i + (ktT t).length) := by
  have leaf : ∀ r k m s kids, (k = 1 ∨ k = 2) → okT r (.mk k m s kids) = true → ∀ i g, AtK L i (ktT (.mk k m s kids)) → leafT L n i g = .ok (.mk k m s kids) (i + (ktT (.mk k m s kids)).length) := by
    intro r k m s kids hk h i g ha
    rcases hk with rfl | rfl
    · have hb := okT_num_bd h
      rw [okT_num] at h
      simp only [Bool.and_eq_true, beq_iff_eq] at h
      have e : kids = [] := List.eq_nil_of_length_eq_zero (by omega)
      have e2 := str_ext (s := s) (t := ⟨#[]⟩) (by have := h.1.2; rw [Lib.toList_data] at this; rw [List.isEmpty_iff.1 this])
      rw [ktT_num] at ha ⊢
      obtain ⟨_, h2, h3⟩ := ha.one
      rw [leafT_num h2, h3, read_itoa hb.1 hb.2, e, e2]; rfl
    · rw [okT_var] at h
      simp only [Bool.and_eq_true, beq_iff_eq] at h
      have e : kids = [] := List.eq_nil_of_length_eq_zero (by omega)
      rw [ktT_var] at ha ⊢
      obtain ⟨_, h2, h3⟩ := ha.one
      rw [leafT_var (by rw [h2]; decide) (by rw [nmB_of h3]; exact h.1.2), h3, e, h.1.1]; rfl
  have opn : ∀ i ks, AtK L i ((3, ⟨#[40]⟩) :: ks) → ∀ g, leafT L n i g = g := by
    intro i ks ha g
    obtain ⟨_, h2, h3⟩ := ha.one
    exact leafT_in (by rw [h2]; decide) (by rw [nmB_of h3]; decide) h3
  induction r with
  | zero =>
    intro t h i ha
    obtain ⟨k, m, s, kids⟩ := t
    rw [rdT]
    by_cases h12 : k = 1 ∨ k = 2
    · exact leaf 0 k m s kids h12 h i _ ha
    · rw [okT_zero (beq_eq_false_iff_ne.2 (by omega)) (beq_eq_false_iff_ne.2 (by omega))] at h; cases h
  | succ r ih =>
    intro t h i ha
    obtain ⟨k, m, s, kids⟩ := t
    rw [rdT]
    by_cases h12 : k = 1 ∨ k = 2
    · exact leaf (r + 1) k m s kids h12 h i _ ha
    have hms : m = 0 ∧ s = ⟨#[]⟩ := by
      rw [okT_more (beq_eq_false_iff_ne.2 (by omega)) (beq_eq_false_iff_ne.2 (by omega))] at h
      simp only [Bool.and_eq_true, beq_iff_eq] at h
      exact ⟨h.1.1.1.2, str_ext (by have := h.1.1.2; rw [Lib.toList_data] at this; rw [List.isEmpty_iff.1 this])⟩
    obtain ⟨rfl, rfl⟩ := hms
    obtain ⟨r', he, ⟨rfl, x, rfl, hx⟩ | ⟨hk, x, y, rfl, hx, hy⟩⟩ := okT_kids (by omega) (by omega) h
    · have : r' = r := by omega
      subst this
      rw [ktT_one, List.append_assoc] at ha
      rw [opn i _ ha]
      have h1 := ha.next
      obtain ⟨_, _, h2⟩ := h1.one
      have h3 : AtK L (i + 1 + 1) (ktT x ++ [(3, ⟨#[41]⟩)]) := h1.next
      have h4 := ih x hx (i + 1 + 1) h3.left
      obtain ⟨_, _, h5⟩ := h3.right.one
      have ei : innT L n (rdT L n r') (i + 1) = closeT L n (.mk 8 0 ⟨#[]⟩ [x]) (i + 1 + 1 + (ktT x).length) := by
        unfold innT
        rw [if_pos h2, h4]
      rw [ei]
      unfold closeT
      rw [if_pos h5, ktT_one]
      congr 1
      simp only [List.length_append, List.length_cons, List.length_nil]; omega
    · have : r' = r := by omega
      subst this
      rw [ktT_two (by omega) (by omega) (by omega), List.append_assoc, List.append_assoc, List.append_assoc] at ha
      rw [opn i _ ha]
      have h1 : AtK L (i + 1) (ktT x ++ ([(opKd k, signB k)] ++ (ktT y ++ [(3, ⟨#[41]⟩)]))) := ha.next
      obtain ⟨k1, x1, r1, e1, hne⟩ := ktT_head _ x hx
      have h2 := h1.left.head e1
      have h3 := ih x hx (i + 1) h1.left
      have h4 := h1.right
      obtain ⟨_, _, h5⟩ := h4.one
      have h6 : AtK L (i + 1 + (ktT x).length + 1) (ktT y ++ [(3, ⟨#[41]⟩)]) := h4.next
      have h7 := ih y hy _ h6.left
      obtain ⟨_, _, h8⟩ := h6.right.one
      have hko := kindOf_op k hk
      have ei : innT L n (rdT L n r') (i + 1) = closeT L n (.mk k 0 ⟨#[]⟩ [x, y]) (i + 1 + (ktT x).length + 1 + (ktT y).length) := by
        unfold innT
        rw [if_neg (by rw [h2]; exact hne), h3]
        simp only
        rw [h5, hko, if_neg (by omega), h7]
      rw [ei]
      unfold closeT
      rw [if_pos h8, ktT_two (by omega) (by omega) (by omega)]
      congr 1
      simp only [List.length_append, List.length_cons, List.length_nil]; omega
/-- the signs of a right term's text, alone and with one sign more -/
theorem lex_alone {t : Tm} (h : okT 3 t = true) : lexR ⟨(txtT t).toArray⟩ = (sgnT t 0, 0, 0) := by
  have hl := txt_len 3 t h
  rw [lexR_short (by rw [str_size]; omega), lex_term 3 t h (rest := []) (by simp) offW_nil, lex_end (by simp)]
  simp
theorem lex_shut {t : Tm} (h : okT 3 t = true) : lexR ⟨(txtT t ++ [32, 41]).toArray⟩ = (sgnT t 0 ++ [⟨3, ⟨#[41]⟩, (txtT t).length + 1⟩], 0, 0) := by
  have hl := txt_len 3 t h
  have h0 : (⟨(txtT t ++ [32, 41]).toArray⟩ : ByteArray).data.toList.drop 0 = txtT t ++ [32, 41] := by simp
  have h1 := drop_more h0
  have h2 := drop_one h1
  have h3 : (⟨(txtT t ++ [32, 41]).toArray⟩ : ByteArray).data.toList.drop (0 + (txtT t).length + 1 + ([41] : List UInt8).length) = [] := drop_one h2
  rw [lexR_short (by rw [str_size, List.length_append]; simp; omega), lex_term 3 t h h0 (offW_cons (by decide)), lex_blank h1 rfl, lex_tok (x := [41]) (rest := []) h2 tok_shut ⟨fun _ => offW_nil, fun e => by cases e⟩, lex_end h3]
  simp

def Got.bind {α β : Type} (g : Got α) (f : α → Nat → Got β) : Got β := match g with | .bad c p => .bad c p | .ok a i => f a i
theorem bind_ok {α β : Type} {a : α} {i : Nat} {f : α → Nat → Got β} : (Got.ok a i).bind f = f a i := rfl
theorem bind_ok_inv {α β : Type} {g : Got α} {f : α → Nat → Got β} {b : β} {j : Nat} (h : g.bind f = .ok b j) : ∃ a i, g = .ok a i ∧ f a i = .ok b j := by
  cases g with
  | bad c p => cases h
  | ok a i => exact ⟨a, i, rfl, h⟩
theorem bind_congr {α β : Type} {g : Got α} {f f' : α → Nat → Got β} (h : ∀ a i, g = .ok a i → f a i = f' a i) : g.bind f = g.bind f' := by
  cases g with
  | bad c p => rfl
  | ok a i => exact h a i rfl
def tk (L : List Sg) (n : Nat) (s : ByteArray) (i : Nat) : Got Unit := if tx L i = s then .ok () (i + 1) else .bad 3 (posAt L n i)
theorem tk_ok {L : List Sg} {n i : Nat} {s : ByteArray} (h : tx L i = s) : tk L n s i = .ok () (i + 1) := by unfold tk; rw [if_pos h]
theorem tk_bad {L : List Sg} {n i : Nat} {s : ByteArray} (h : ¬ tx L i = s) : tk L n s i = .bad 3 (posAt L n i) := by unfold tk; rw [if_neg h]
theorem tk_inv {L : List Sg} {n i j : Nat} {s : ByteArray} {u : Unit} (h : tk L n s i = .ok u j) : tx L i = s ∧ j = i + 1 := by
  unfold tk at h
  split at h
  · next h1 => injection h with _ h; exact ⟨h1, h.symm⟩
  · cases h
def tIf : ByteArray := ⟨#[105, 102]⟩
def tWhile : ByteArray := ⟨#[119, 104, 105, 108, 101]⟩
def tCall : ByteArray := ⟨#[99, 97, 108, 108]⟩
def tSpawn : ByteArray := ⟨#[115, 112, 97, 119, 110]⟩
def tLock : ByteArray := ⟨#[108, 111, 99, 107]⟩
def tUnlock : ByteArray := ⟨#[117, 110, 108, 111, 99, 107]⟩
def tSkip : ByteArray := ⟨#[115, 107, 105, 112]⟩
def tElse : ByteArray := ⟨#[101, 108, 115, 101]⟩
def wordOf (L : List Sg) (i : Nat) : Int := if tx L i = tIf then 2 else if tx L i = tWhile then 3 else if tx L i = tCall then 4 else if tx L i = tSpawn then 5 else if tx L i = tLock then 6 else if tx L i = tUnlock then 7 else if tx L i = tSkip then 8 else if nmB L i = true then 1 else 0
theorem wordOf_lt {L : List Sg} {i : Nat} (h : ¬ wordOf L i = 0) : i < L.length := by
  rcases Nat.lt_or_ge i L.length with h1 | h1
  · exact h1
  · exfalso
    apply h
    unfold wordOf
    rw [tx_ge (by omega), nmB_ge (by omega)]
    decide
/-- "{", statements, "}" -/
def blkG (L : List Sg) (n : Nat) (rec : Nat → Nat → Got (List St × Nat)) (i left : Nat) : Got (List St × Nat) :=
  (tk L n ⟨#[123]⟩ i).bind fun _ i1 => (rec i1 left).bind fun b i2 => (tk L n ⟨#[125]⟩ i2).bind fun _ i3 => .ok b i3
def elsG (L : List Sg) (n : Nat) (rec : Nat → Nat → Got (List St × Nat)) (i left : Nat) : Got (List St × Nat) :=
  if tx L i = ⟨#[123]⟩ ∧ wordOf L (i + 1) = 0 then .bad 3 (posAt L n (i + 1)) else blkG L n rec i left
def nesG (L : List Sg) (n : Nat) (rec : Nat → Nat → Got (List St × Nat)) (k : Int) (i left : Nat) : Got (St × Nat) :=
  (rdT L n 6 (i + 1)).bind fun t i1 => (blkG L n rec i1 left).bind fun b i2 =>
    if k = 3 ∨ ¬ tx L i2 = tElse then .ok (.mk k ⟨#[]⟩ t b.1 [], b.2) i2
    else (elsG L n rec (i2 + 1) b.2).bind fun e i3 => .ok (.mk k ⟨#[]⟩ t b.1 e.1, e.2) i3
def zTm : Tm := .mk 0 0 ⟨#[]⟩ []
def oneG (L : List Sg) (n : Nat) (rec : Nat → Nat → Got (List St × Nat)) (k : Int) (i left : Nat) : Got (St × Nat) :=
  if k = 2 ∨ k = 3 then nesG L n rec k i left
  else if k = 1 then (tk L n ⟨#[61]⟩ (i + 1)).bind fun _ i1 => (rdT L n 6 i1).bind fun t i2 => (tk L n ⟨#[59]⟩ i2).bind fun _ i3 => .ok (.mk 1 (tx L i) t [] [], left) i3
  else if k = 8 then (tk L n ⟨#[59]⟩ (i + 1)).bind fun _ i1 => .ok (.mk 8 ⟨#[]⟩ zTm [] [], left) i1
  else if nmB L (i + 1) = true then (tk L n ⟨#[59]⟩ (i + 2)).bind fun _ i1 => .ok (.mk k (tx L (i + 1)) zTm [] [], left) i1
  else .bad 3 (posAt L n (i + 1))
def stepG (L : List Sg) (n : Nat) (rec1 : Nat → Nat → Got (List St × Nat)) (rec0 : Nat → Nat → Got (List St × Nat)) (room i left : Nat) : Got (List St × Nat) :=
  if wordOf L i = 0 then .ok ([], left) i
  else if (wordOf L i = 2 ∨ wordOf L i = 3) ∧ room = 0 then .bad 4 (posAt L n i)
  else if left = 0 then .bad 5 (posAt L n i)
  else (oneG L n rec1 (wordOf L i) i (left - 1)).bind fun g q => (rec0 q g.2).bind fun r q2 => .ok (g.1 :: r.1, r.2) q2
def rdSs (L : List Sg) (n : Nat) : Nat → Nat → Nat → Nat → Got (List St × Nat)
  | 0, room, i, left => .ok ([], left) i
  | f + 1, room, i, left => stepG L n (rdSs L n f (room - 1)) (rdSs L n f room) room i left
def rdS (L : List Sg) (n : Nat) (room i left : Nat) : Got (List St × Nat) := rdSs L n (L.length + 1 - i) room i left
theorem blkG_congr {L : List Sg} {n : Nat} {rec rec' : Nat → Nat → Got (List St × Nat)} {i0 i left : Nat} (hi : i0 ≤ i) (h : ∀ j l, i0 < j → rec j l = rec' j l) : blkG L n rec i left = blkG L n rec' i left := by
  unfold blkG
  refine bind_congr fun _ i1 h1 => ?_
  obtain ⟨_, rfl⟩ := tk_inv h1
  rw [h _ _ (by omega)]
theorem blkG_lt {L : List Sg} {n : Nat} {rec : Nat → Nat → Got (List St × Nat)} {i left q : Nat} {b : List St × Nat} (hr : ∀ j l b q, i < j → rec j l = .ok b q → j ≤ q) (h : blkG L n rec i left = .ok b q) : i + 2 ≤ q := by
  unfold blkG at h
  obtain ⟨_, i1, h1, h⟩ := bind_ok_inv h
  obtain ⟨_, rfl⟩ := tk_inv h1
  obtain ⟨b', i2, h2, h⟩ := bind_ok_inv h
  have := hr _ _ _ _ (by omega) h2
  obtain ⟨_, i3, h3, h⟩ := bind_ok_inv h
  obtain ⟨_, rfl⟩ := tk_inv h3
  injection h with _ h
  omega
theorem elsG_congr {L : List Sg} {n : Nat} {rec rec' : Nat → Nat → Got (List St × Nat)} {i0 i left : Nat} (hi : i0 ≤ i) (h : ∀ j l, i0 < j → rec j l = rec' j l) : elsG L n rec i left = elsG L n rec' i left := by
  unfold elsG
  rw [blkG_congr hi h]
theorem elsG_lt {L : List Sg} {n : Nat} {rec : Nat → Nat → Got (List St × Nat)} {i left q : Nat} {b : List St × Nat} (hr : ∀ j l b q, i < j → rec j l = .ok b q → j ≤ q) (h : elsG L n rec i left = .ok b q) : i + 2 ≤ q := by
  unfold elsG at h
  split at h
  · cases h
  · exact blkG_lt hr h
theorem oneG_congr {L : List Sg} {n : Nat} {rec rec' : Nat → Nat → Got (List St × Nat)} {k : Int} {i left : Nat} (hr : ∀ j l b q, i < j → rec j l = .ok b q → j ≤ q) (h : ∀ j l, i < j → rec j l = rec' j l) : oneG L n rec k i left = oneG L n rec' k i left := by
  unfold oneG
  split
  · unfold nesG
    refine bind_congr fun t i1 h1 => ?_
    have := rdT_lt _ _ _ _ _ _ h1
    rw [blkG_congr (i0 := i) (by omega) h]
    refine bind_congr fun b i2 h2 => ?_
    rw [← blkG_congr (i0 := i) (by omega) h] at h2
    have := blkG_lt (fun j l b q hj => hr j l b q (by omega)) h2
    split
    · rfl
    · rw [elsG_congr (i0 := i) (by omega) h]
  · rfl
theorem oneG_lt {L : List Sg} {n : Nat} {rec : Nat → Nat → Got (List St × Nat)} {k : Int} {i left q : Nat} {b : St × Nat} (hr : ∀ j l b q, i < j → rec j l = .ok b q → j ≤ q) (h : oneG L n rec k i left = .ok b q) : i < q := by
  unfold oneG at h
  split at h
  · unfold nesG at h
    obtain ⟨t, i1, h1, h⟩ := bind_ok_inv h
    have := rdT_lt _ _ _ _ _ _ h1
    obtain ⟨b1, i2, h2, h⟩ := bind_ok_inv h
    have := blkG_lt (fun j l b q hj => hr j l b q (by omega)) h2
    split at h
    · injection h with _ h; omega
    · obtain ⟨e, i3, h3, h⟩ := bind_ok_inv h
      have := elsG_lt (fun j l b q hj => hr j l b q (by omega)) h3
      injection h with _ h
      omega
  split at h
  · obtain ⟨_, i1, h1, h⟩ := bind_ok_inv h
    obtain ⟨_, rfl⟩ := tk_inv h1
    obtain ⟨t, i2, h2, h⟩ := bind_ok_inv h
    have := rdT_lt _ _ _ _ _ _ h2
    obtain ⟨_, i3, h3, h⟩ := bind_ok_inv h
    obtain ⟨_, rfl⟩ := tk_inv h3
    injection h with _ h
    omega
  split at h
  · obtain ⟨_, i1, h1, h⟩ := bind_ok_inv h
    obtain ⟨_, rfl⟩ := tk_inv h1
    injection h with _ h
    omega
  split at h
  · obtain ⟨_, i1, h1, h⟩ := bind_ok_inv h
    obtain ⟨_, rfl⟩ := tk_inv h1
    injection h with _ h
    omega
  · cases h
theorem rdSs_le (L : List Sg) (n f : Nat) : ∀ room i left b q, rdSs L n f room i left = .ok b q → i ≤ q := by
  induction f with
  | zero => intro room i left b q h; rw [rdSs] at h; injection h with _ h; omega
  | succ f ih =>
    intro room i left b q h
    rw [rdSs, stepG] at h
    split at h
    · injection h with _ h; omega
    split at h
    · cases h
    split at h
    · cases h
    obtain ⟨g, q1, h1, h⟩ := bind_ok_inv h
    have := oneG_lt (fun j l b q _ => ih _ j l b q) h1
    obtain ⟨r, q2, h2, h⟩ := bind_ok_inv h
    have := ih _ _ _ _ _ h2
    injection h with _ h
    omega
theorem rdSs_fuel (L : List Sg) (n : Nat) (N : Nat) : ∀ f f' room i left, L.length + 1 - i ≤ N → L.length + 1 - i ≤ f → L.length + 1 - i ≤ f' → rdSs L n f room i left = rdSs L n f' room i left := by
  induction N with
  | zero =>
    intro f f' room i left h0 h1 h2
    have hz : wordOf L i = 0 := by
      rcases Int.decEq (wordOf L i) 0 with h | h
      · have := wordOf_lt h; omega
      · exact h
    have e : ∀ f, rdSs L n f room i left = .ok ([], left) i := by
      intro f
      cases f with
      | zero => rw [rdSs]
      | succ f => rw [rdSs, stepG, if_pos hz]
    rw [e, e]
  | succ N ih =>
    intro f f' room i left h0 h1 h2
    by_cases hz : wordOf L i = 0
    · have e : ∀ f, rdSs L n f room i left = .ok ([], left) i := by
        intro f
        cases f with
        | zero => rw [rdSs]
        | succ f => rw [rdSs, stepG, if_pos hz]
      rw [e, e]
    have hlt := wordOf_lt hz
    obtain ⟨g, rfl⟩ : ∃ g, f = g + 1 := ⟨f - 1, by omega⟩
    obtain ⟨g', rfl⟩ : ∃ g, f' = g + 1 := ⟨f' - 1, by omega⟩
    rw [rdSs, rdSs, stepG, stepG, if_neg hz, if_neg hz]
    split
    · rfl
    split
    · rfl
    rw [oneG_congr (rec := rdSs L n g (room - 1)) (rec' := rdSs L n g' (room - 1)) (fun j l b q _ => rdSs_le L n g _ j l b q) (fun j l hj => ih _ _ _ _ _ (by omega) (by omega) (by omega))]
    refine bind_congr fun x q hx => ?_
    have := oneG_lt (fun j l b q _ => rdSs_le L n g' _ j l b q) hx
    rw [ih g g' room q x.2 (by omega) (by omega) (by omega)]
theorem rdS_le {L : List Sg} {n room i left : Nat} {b : List St × Nat} {q : Nat} (h : rdS L n room i left = .ok b q) : i ≤ q := rdSs_le _ _ _ _ _ _ _ _ h
/-- one round -/
theorem rdS_eq (L : List Sg) (n room i left : Nat) : rdS L n room i left = stepG L n (rdS L n (room - 1)) (rdS L n room) room i left := by
  unfold rdS
  by_cases hz : wordOf L i = 0
  · rw [stepG, if_pos hz]
    cases L.length + 1 - i with
    | zero => rw [rdSs]
    | succ f => rw [rdSs, stepG, if_pos hz]
  have hlt := wordOf_lt hz
  obtain ⟨f, hf⟩ : ∃ f, L.length + 1 - i = f + 1 := ⟨L.length - i, by omega⟩
  rw [hf, rdSs, stepG, stepG, if_neg hz, if_neg hz]
  split
  · rfl
  split
  · rfl
  rw [oneG_congr (rec := rdSs L n f (room - 1)) (rec' := fun i left => rdSs L n (L.length + 1 - i) (room - 1) i left) (fun j l b q _ => rdSs_le L n f _ j l b q) (fun j l hj => rdSs_fuel L n f _ _ _ _ _ (by omega) (by omega) (by omega))]
  refine bind_congr fun x q hx => ?_
  have := oneG_lt (fun j l b q _ => rdSs_le L n _ _ j l b q) hx
  rw [rdSs_fuel L n f f (L.length + 1 - q) room q x.2 (by omega) (by omega) (by omega)]
/-- what the program's reader of statements makes of it: it stops at "}" or the end alone -/
def chkG (L : List Sg) (n : Nat) (g : Got (List St × Nat)) : Got (List St × Nat) := g.bind fun b q => if q < L.length ∧ ¬ tx L q = ⟨#[125]⟩ then .bad 3 (posAt L n q) else .ok b q
theorem blkG_chk {L : List Sg} {n : Nat} {rec : Nat → Nat → Got (List St × Nat)} {i left : Nat} : blkG L n (fun i left => chkG L n (rec i left)) i left = blkG L n rec i left := by
  unfold blkG
  refine bind_congr fun _ i1 _ => ?_
  unfold chkG
  dsimp only
  cases rec i1 left with
  | bad c p => rfl
  | ok b q =>
    rw [bind_ok, bind_ok]
    split
    · next h => rw [tk_bad h.2]; rfl
    · rfl
end Go.Proofs.YtefcdpkficojgaaDoor
