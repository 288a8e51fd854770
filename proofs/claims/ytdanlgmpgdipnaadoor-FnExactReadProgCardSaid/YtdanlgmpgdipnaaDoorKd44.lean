/- Several texts in one: RsSt4, RsTop, Pg3, RsPgI, RsPgP. -/
import Derived.Test.YtdanlgmpgdipnaaDoorKd41
import Derived.Test.YtdanlgmpgdipnaaDoorKd42
import Derived.Test.YtdanlgmpgdipnaaDoorKd43
import Derived.Test.YtdanlgmpgdipnaaDoorKd38
import Derived.Test.YtdanlgmpgdipnaaDoorKd22
import Derived.Test.YtdanlgmpgdipnaaDoorKd39
import Derived.Test.YtdanlgmpgdipnaaDoorKd40
namespace Go.Proofs.YtdanlgmpgdipnaaDoor
open Go.RowKit
set_option linter.unusedVariables false


theorem rs_stmt_any (r : Nat) (h6 : r ≤ 6) (ih : ∀ r', r = r' + 1 → SpSC r') : StC r := by
  intro w rb A c n i L left hs hA hl h0 h
  unfold firstG
  have hcase := word_cases (L := L) (i := i) rfl h0
  by_cases hd : (wordOf L i = 2 ∨ wordOf L i = 3) ∧ r = 0
  · rw [if_pos hd]
    obtain ⟨h23, rfl⟩ := hd
    rcases h23 with h2 | h3
    · exact rs_stmt_deep2 w rb A c n i L (left : Int) hs hA h h2
    · exact rs_stmt_deep3 w rb A c n i L (left : Int) hs hA h h3
  rw [if_neg hd]
  by_cases hl0 : left = 0
  · rw [if_pos hl0]
    subst hl0
    by_cases h2 : wordOf L i = 2
    · exact rs_stmt_full2 w rb A c n i L (r : Int) hs hA h h2 (fun e => hd ⟨.inl h2, by omega⟩)
    by_cases h3 : wordOf L i = 3
    · exact rs_stmt_full3 w rb A c n i L (r : Int) hs hA h h3 (fun e => hd ⟨.inr h3, by omega⟩)
    exact rs_stmt_fullo w rb A c n i L (r : Int) hs hA h _ rfl ⟨h2, h3⟩
  rw [if_neg hl0]
  obtain ⟨lf, rfl⟩ : ∃ lf, left = lf + 1 := ⟨left - 1, by omega⟩
  rw [Nat.add_sub_cancel]
  by_cases h23 : wordOf L i = 2 ∨ wordOf L i = 3
  · have hr0 : ¬ r = 0 := fun h => hd ⟨h23, h⟩
    obtain ⟨r', rfl⟩ : ∃ r', r = r' + 1 := ⟨r - 1, by omega⟩
    rw [Nat.add_sub_cancel]
    rcases h23 with h2 | h3
    · rw [h2]
      exact rs_stmt_nes2 r' (by omega) (ih r' rfl) w rb A c n i L lf hs hA _ hl h (by omega) h2
    · rw [h3]
      exact rs_stmt_nes3 r' (by omega) (ih r' rfl) w rb A c n i L lf hs hA _ hl h (by omega) h3
  rcases hcase with h1 | h1 | h1 | h1 | h1 | h1 | h1 | h1
  · rw [h1]; exact rs_stmt_set _ w rb A c n i L lf hs hA _ hl h h1
  · exact absurd (.inl h1) h23
  · exact absurd (.inr h1) h23
  · exact rs_stmt_word _ w rb A c n i L lf hs hA _ hl h _ rfl (by omega)
  · exact rs_stmt_word _ w rb A c n i L lf hs hA _ hl h _ rfl (by omega)
  · exact rs_stmt_word _ w rb A c n i L lf hs hA _ hl h _ rfl (by omega)
  · exact rs_stmt_word _ w rb A c n i L lf hs hA _ hl h _ rfl (by omega)
  · rw [h1]; exact rs_stmt_skip _ w rb A c n i L lf hs hA _ hl h h1
theorem rs_stmts_all (r : Nat) (h6 : r ≤ 6) : SpSC r := by
  induction r with
  | zero => exact rs_stmts_of 0 (rs_stmt_any 0 h6 (fun r' e => by omega))
  | succ r ih => exact rs_stmts_of (r + 1) (rs_stmt_any (r + 1) h6 (fun r' e => (Nat.succ.inj e) ▸ ih (by omega)))

theorem lexS_none (s : ByteArray) (n : Nat) : ∀ i acc, s.size - i ≤ n → ¬ (lexS s i acc).2.1 = 0 → (lexS s i acc).1 = [] := by
  induction n with
  | zero => intro i acc h h0; rw [lexS_end (by omega)] at h0; exact absurd rfl h0
  | succ n ih =>
    intro i acc h h0
    by_cases h1 : i < s.size
    · cases hb : blankB s[i] with
      | true => rw [lexS_blank h1 hb] at h0 ⊢; exact ih (i + 1) acc (by omega) h0
      | false =>
        cases ho : (signP s i h1).2.2 with
        | true =>
          rw [lexS_sign h1 hb ho] at h0 ⊢
          have hbd := signP_bd s i h1
          exact ih _ _ (by omega) h0
        | false => rw [lexS_bad h1 hb ho]
    · rw [lexS_end h1] at h0; exact absurd rfl h0
theorem lexR_len (s : ByteArray) : (lexR s).1.length ≤ 6000 := by
  by_cases hf : (lexR s).2.1 = 0
  · exact (lexR_ok hf).2.2
  · by_cases h : 6000 < s.size
    · rw [lexR_long h]; simp
    · rw [lexR_short h] at hf ⊢
      rw [lexS_none s _ 0 [] (Nat.le_refl _) hf]; simp

section
variable {w : World} {g : Nat} {a b c : Value} {T : TypeId}
theorem box3 (h : w.heap[g]? = some (.cells #[a, b, c] T (0, 0))) : w.cell? ⟨g, 0, none⟩ = some a ∧ w.cell? ⟨g, 1, none⟩ = some b ∧ w.cell? ⟨g, 2, none⟩ = some c ∧ w.frozen? ⟨g, 0, none⟩ = false ∧ w.frozen? ⟨g, 1, none⟩ = false ∧ w.frozen? ⟨g, 2, none⟩ = false :=
  ⟨by rw [Lib.cell_of_heap h]; rfl, by rw [Lib.cell_of_heap h]; rfl, by rw [Lib.cell_of_heap h]; rfl, Lib.frozen_of_heap h 0, Lib.frozen_of_heap h 1, Lib.frozen_of_heap h 2⟩
theorem s3_0 (h : w.heap[g]? = some (.cells #[a, b, c] T (0, 0))) (v : Value) : (w.setCell ⟨g, 0, none⟩ v).heap[g]? = some (.cells #[v, b, c] T (0, 0)) := by simp [World.setCell, Array.getElem?_modify, h]
theorem s3_1 (h : w.heap[g]? = some (.cells #[a, b, c] T (0, 0))) (v : Value) : (w.setCell ⟨g, 1, none⟩ v).heap[g]? = some (.cells #[a, v, c] T (0, 0)) := by simp [World.setCell, Array.getElem?_modify, h]
theorem s3_2 (h : w.heap[g]? = some (.cells #[a, b, c] T (0, 0))) (v : Value) : (w.setCell ⟨g, 2, none⟩ v).heap[g]? = some (.cells #[a, b, v] T (0, 0)) := by simp [World.setCell, Array.getElem?_modify, h]
theorem s3_all (h : w.heap[g]? = some (.cells #[a, b, c] T (0, 0))) (x y z : Value) : (((w.setCell ⟨g, 0, none⟩ x).setCell ⟨g, 1, none⟩ y).setCell ⟨g, 2, none⟩ z).heap[g]? = some (.cells #[x, y, z] T (0, 0)) := s3_2 (s3_1 (s3_0 h x) y) z
theorem s3_blk {x y z : Value} {k : Nat} (h : ¬ k = g) : (((w.setCell ⟨g, 0, none⟩ x).setCell ⟨g, 1, none⟩ y).setCell ⟨g, 2, none⟩ z).heap[k]? = w.heap[k]? :=
  ((Below.heap_setCell _ ⟨g, 2, none⟩ z k h).trans (Below.heap_setCell _ ⟨g, 1, none⟩ y k h)).trans (Below.heap_setCell _ ⟨g, 0, none⟩ x k h)
theorem pgO_none (F : Nat → Prop) : PgO w F ⟨none, 0, none, 0, none, 0⟩ noPg :=
  ⟨fun _ => False, fun _ => False, fun _ => False, fun _ h => h.elim, fun _ h => h.elim, fun _ h => h.elim, fun _ h => h.elim, fun _ h => h.elim, fun _ h => h.elim, Nat.le_refl _, Nat.zero_le _, ⟨[], fun _ _ => False, RowO.nil _ _ _ _ _, fun i h => absurd h (by simp [noPg])⟩, Nat.le_refl _, Nat.zero_le _, ⟨[], fun _ _ => False, RowO.nil _ _ _ _ _, fun i h => absurd h (by simp [noPg])⟩, Nat.le_refl _, Nat.zero_le _, ⟨[], fun _ _ => False, RowO.nil _ _ _ _ _, fun i h => absurd h (by simp [noPg])⟩⟩
end
theorem PgO.sub {w : World} {F F' : Nat → Prop} {x : V3} {p : Pg} (h : PgO w F x p) (hF : ∀ b, F b → F' b) : PgO w F' x p := by
  obtain ⟨G, L, P, s1, s2, s3, r⟩ := h
  exact ⟨G, L, P, fun b h => hF b (s1 b h), fun b h => hF b (s2 b h), fun b h => hF b (s3 b h), r⟩
theorem pgO_of {w : World} {F : Nat → Prop} {g l : List ByteArray} {ps : List Pr} {gA lA pA : Option Addr} {gc lc pc a1 a2 b1 b2 c1 c2 : Nat} (rg : StrRowO w (fun b => a1 ≤ b ∧ b < a2) gA g) (rl : StrRowO w (fun b => b1 ≤ b ∧ b < b2) lA l) (rp : PrRowO w (fun b => c1 ≤ b ∧ b < c2) pA ps)
    (h1 : a2 ≤ b1) (h2 : b2 ≤ c1) (h3 : b1 ≤ b2) (hF : ∀ b, a1 ≤ b ∧ b < c2 ∧ (b < a2 ∨ (b1 ≤ b ∧ b < b2) ∨ c1 ≤ b) → F b) (h4 : a1 ≤ b1) (h5 : b2 ≤ c2) (h6 : c1 ≤ c2) (g1 : g.length ≤ gc) (g2 : gc ≤ maxLen) (l1 : l.length ≤ lc) (l2 : lc ≤ maxLen) (p1 : ps.length ≤ pc) (p2 : pc ≤ maxLen) : PgO w F ⟨gA, gc, lA, lc, pA, pc⟩ ⟨g, l, ps⟩ :=
  ⟨_, _, _, fun b h => hF b ⟨h.1, by omega, .inl h.2⟩, fun b h => hF b ⟨by omega, by omega, .inr (.inl h)⟩, fun b h => hF b ⟨by omega, h.2, .inr (.inr h.1)⟩, fun b x y => by omega, fun b x y => by omega, fun b x y => by omega, g1, g2, rg, l1, l2, rl, p1, p2, rp⟩

/-- how the reader stands: where g ends, or behind its fault -/
def RsSt {α : Type} (w : World) (rb : Nat) (A : Option Addr) (c n : Nat) (L : List Sg) (g : Got α) (lf : Int) : Prop :=
  match g with
  | .ok _ q => RsAt w rb A c n q L 0 0 lf
  | .bad fc fp => ¬ fc = 0 ∧ ∃ q, RsAt w rb A c n q L fc fp lf
section
variable {α : Type} {g : Got α} {w : World} {rb : Nat} {A : Option Addr} {c n : Nat} {L : List Sg} {lf : Int}
theorem RsSt.at (h : RsSt w rb A c n L g lf) : ∃ fc fp q, RsAt w rb A c n q L fc fp lf := by
  cases g with
  | bad fc fp => obtain ⟨_, q, h⟩ := h; exact ⟨fc, fp, q, h⟩
  | ok x q => exact ⟨0, 0, q, h⟩
theorem RsSt.lt (h : RsSt w rb A c n L g lf) : rb < w.heap.size := by obtain ⟨_, _, _, r⟩ := h.at; exact r.lt
theorem RsSt.fz (h : RsSt w rb A c n L g lf) (j : Nat) : w.frozen? ⟨rb, j, none⟩ = false := by obtain ⟨_, _, _, r⟩ := h.at; exact r.fz j
theorem RsSt.c5 (h : RsSt w rb A c n L g lf) : w.cell? ⟨rb, 5, none⟩ = some (.int .i64 lf) := by obtain ⟨_, _, _, r⟩ := h.at; exact r.cs.2.2.2.2.2
theorem RsSt.below {w' : World} (h : RsSt w rb A c n L g lf) (hb : Below w.heap.size w w') : RsSt w' rb A c n L g lf := by
  cases g with
  | bad fc fp => obtain ⟨hf, q, h⟩ := h; exact ⟨hf, q, h.below hb⟩
  | ok x q => exact RsAt.below (h : RsAt w rb A c n q L 0 0 lf) hb
theorem RsSt.keepS {S : Nat → Prop} {w' : World} (h : RsSt w rb A c n L g lf) (k : Keep S w w') (hr : S rb) (hA : ∀ b o, A = some ⟨b, o, none⟩ → S b ∧ b < w.heap.size) : RsSt w' rb A c n L g lf := by
  cases g with
  | bad fc fp => obtain ⟨hf, q, h⟩ := h; exact ⟨hf, q, h.keepS k hr hA⟩
  | ok x q => exact RsAt.keepS (h : RsAt w rb A c n q L 0 0 lf) k hr hA
theorem RsSt.setg (h : RsSt w rb A c n L g lf) {b : Nat} (hg : b ≠ rb) (hA : ∀ b' o, A = some ⟨b', o, none⟩ → b' ≠ b) (o : Nat) (v : Value) : RsSt (w.setCell ⟨b, o, none⟩ v) rb A c n L g lf := by
  cases g with
  | bad fc fp => obtain ⟨hf, q, h⟩ := h; exact ⟨hf, q, h.setg hg hA o v⟩
  | ok x q => exact RsAt.setg (h : RsAt w rb A c n q L 0 0 lf) hg hA o v
theorem RsSt.setl (h : RsSt w rb A c n L g lf) (lf' : Int) : RsSt (w.setCell ⟨rb, 5, none⟩ (.int .i64 lf')) rb A c n L g lf' := by
  cases g with
  | bad fc fp => obtain ⟨hf, q, h⟩ := h; exact ⟨hf, q, h.setl lf'⟩
  | ok x q => exact RsAt.setl (h : RsAt w rb A c n q L 0 0 lf) lf'
end
def thenTk {α : Type} (L : List Sg) (n : Nat) (s : ByteArray) (g : Got α) : Got α := g.bind fun x i => (tk L n s i).bind fun _ q => .ok x q
def nameG (L : List Sg) (n i : Nat) : Got ByteArray := if nmB L i = true then .ok (tx L i) (i + 1) else .bad 3 (posAt L n i)
def thenNm {α : Type} (L : List Sg) (n : Nat) (g : Got α) : Got ByteArray := g.bind fun _ i => nameG L n i
def thenSs (L : List Sg) (n : Nat) (g : Got ByteArray) : Got Pr := g.bind fun t i => (rdS L n 6 i 60).bind fun b q => .ok ⟨t, b.1⟩ q
theorem rs_takeG {α : Type} (s : ByteArray) (h0 : s ≠ ⟨#[]⟩) (w : World) (rb : Nat) (A : Option Addr) (c n : Nat) (L : List Sg) (lf : Int) (g : Got α) (h : RsSt w rb A c n L g lf) :
    Calls Tryd.prog 14 #[.pointer (some ⟨rb, 0, none⟩), .string s] w fun e w' => e = .returned (.tuple #[]) ∧ KeepR rb w w' ∧ RsSt w' rb A c n L (thenTk L n s g) lf := by
  cases g with
  | bad fc fp =>
    obtain ⟨hf, q, hr⟩ := h
    refine (rs_take2 s w rb A c n q L fc fp lf hr h0 hf).mono ?_
    rintro e w' ⟨rfl, b⟩
    exact ⟨rfl, KeepR.of_below' b, hf, q, hr.below b⟩
  | ok x i =>
    refine (rs_take s w rb A c n i L 0 lf h h0).mono ?_
    rintro e w' ⟨rfl, k, hret⟩
    refine ⟨rfl, k, ?_⟩
    unfold thenTk
    rw [bind_ok]
    rcases hret with ⟨ht, r⟩ | ⟨ht, r⟩
    · rw [tk_ok ht]; exact r
    · rw [tk_bad ht]; exact ⟨by decide, i, r⟩
theorem rs_nameG {α : Type} (w : World) (rb : Nat) (A : Option Addr) (c n : Nat) (L : List Sg) (lf : Int) (g : Got α) (hs : SgsOk L) (h : RsSt w rb A c n L g lf) :
    Calls Tryd.prog 15 #[.pointer (some ⟨rb, 0, none⟩)] w fun e w' => ∃ t, e = .returned (.string t) ∧ KeepR rb w w' ∧ RsSt w' rb A c n L (thenNm L n g) lf ∧ ∀ x q, thenNm L n g = .ok x q → x = t ∧ t.size ≤ maxLen := by
  cases g with
  | bad fc fp =>
    obtain ⟨hf, q, hr⟩ := h
    refine (rs_name_fault w rb A c n q L fc fp lf hr hf).mono ?_
    rintro e w' ⟨rfl, b⟩
    exact ⟨_, rfl, KeepR.of_below' b, ⟨hf, q, hr.below b⟩, fun x q h => by cases h⟩
  | ok x i =>
    refine (rs_name w rb A c n i L 0 lf h hs).mono ?_
    rintro e w' ⟨k, hret⟩
    unfold thenNm
    rw [bind_ok]
    unfold nameG
    rcases hret with ⟨hn, rfl, r⟩ | ⟨hn, rfl, r⟩
    · refine ⟨_, rfl, k, ?_, fun x q h => ?_⟩
      · rw [if_pos hn]; exact r
      · rw [if_pos hn] at h; injection h with h1 h2; exact ⟨h1.symm, name_sz hn⟩
    · refine ⟨_, rfl, k, ?_, fun x q h => ?_⟩
      · rw [if_neg (by rw [hn]; decide)]; exact ⟨by decide, i, r⟩
      · rw [if_neg (by rw [hn]; decide)] at h; cases h
theorem rs_stmtsG (w : World) (rb : Nat) (A : Option Addr) (c n : Nat) (L : List Sg) (g : Got ByteArray) (hs : SgsOk L) (hA : ∀ b o, A = some ⟨b, o, none⟩ → b < w.heap.size) (h : RsSt w rb A c n L g 60) :
    Calls Tryd.prog 16 #[.pointer (some ⟨rb, 0, none⟩), .int .i64 6] w fun e w' => KeepR rb w w' ∧ ∃ A' m c' lf, e = .returned (.slice A' m c') ∧ RsSt w' rb A c n L (thenSs L n g) lf ∧ ∀ p q, thenSs L n g = .ok p q → m = p.body.length ∧ m ≤ c' ∧ c' ≤ maxLen ∧ StRowO w' (Made w w') A' p.body ∧ ∃ q', g = .ok p.name q' := by
  cases g with
  | bad fc fp =>
    obtain ⟨hf, q, hr⟩ := h
    refine (rs_stmts_fault 6 w rb A c n q L fc fp 60 hr hf).mono ?_
    rintro e w' ⟨A', c', rfl, b⟩
    exact ⟨KeepR.of_below' b, A', 0, c', 60, rfl, ⟨hf, q, hr.below b⟩, fun p q h => by cases h⟩
  | ok t i =>
    refine (rs_stmts_all 6 (Nat.le_refl _) w rb A c n i L 60 hs hA (by decide) h).mono ?_
    rintro e w' ⟨k, A', m, c', rfl, hret⟩
    unfold thenSs
    rw [bind_ok]
    generalize rdS L n 6 i 60 = gg at *
    cases gg with
    | bad fc fp =>
      obtain ⟨hf, q, lf, r⟩ := hret
      exact ⟨k, A', m, c', lf, rfl, ⟨hf, q, r⟩, fun p q h => by cases h⟩
    | ok b q =>
      obtain ⟨hm, hl1, hl2, row, r⟩ := hret
      refine ⟨k, A', m, c', (b.2 : Int), rfl, r, fun p q' h => ?_⟩
      rw [bind_ok] at h
      injection h with h1 h2
      subst h1
      exact ⟨hm, hl1, hl2, row, i, rfl⟩
def thenLs {α : Type} (L : List Sg) (n : Nat) (word : ByteArray) (g : Got α) : Got (List ByteArray) := g.bind fun _ i => nmsG L n word 6 i
theorem rs_listG {α : Type} (word : ByteArray) (hw : word ≠ ⟨#[]⟩) (w : World) (rb : Nat) (A : Option Addr) (c n : Nat) (L : List Sg) (lf : Int) (g : Got α) (hs : SgsOk L) (hA : ∀ b o, A = some ⟨b, o, none⟩ → b < w.heap.size) (h : RsSt w rb A c n L g lf) :
    Calls Tryd.prog 11 #[.pointer (some ⟨rb, 0, none⟩), .string word, .int .i64 6] w fun e w' => KeepR rb w w' ∧ ∃ A' m c', e = .returned (.slice A' m c') ∧ RsSt w' rb A c n L (thenLs L n word g) lf ∧ ∀ l q, thenLs L n word g = .ok l q → m = l.length ∧ m ≤ c' ∧ c' ≤ maxLen ∧ StrRowO w' (fun b => w.heap.size ≤ b ∧ b < w'.heap.size) A' l := by
  cases g with
  | bad fc fp =>
    obtain ⟨hf, q, hr⟩ := h
    refine (rs_list_fault word hw 6 w rb A c n q L fc fp lf hr hf).mono ?_
    rintro e w' ⟨A', c', rfl, b⟩
    exact ⟨KeepR.of_below' b, A', 0, c', rfl, ⟨hf, q, hr.below b⟩, fun p q h => by cases h⟩
  | ok t i =>
    refine (rs_list word hw w rb A c n i L lf hs hA h).mono ?_
    rintro e w' ⟨k, A', m, c', rfl, hret⟩
    unfold thenLs
    rw [bind_ok]
    generalize nmsG L n word 6 i = gg at *
    cases gg with
    | bad fc fp =>
      obtain ⟨hf, q, r⟩ := hret
      exact ⟨k, A', m, c', rfl, ⟨hf, q, r⟩, fun p q h => by cases h⟩
    | ok b q =>
      obtain ⟨hm, hl1, hl2, row, r⟩ := hret
      refine ⟨k, A', m, c', rfl, r, fun p q' h => ?_⟩
      injection h with h1 h2
      subst h1
      exact ⟨hm, hl1, hl2, row⟩
/-- a procedure, step by step -/
theorem procG_steps (L : List Sg) (n : Nat) (g : Got Unit) : thenTk L n ⟨#[125]⟩ (thenSs L n (thenTk L n ⟨#[123]⟩ (thenNm L n (thenTk L n ⟨#[112, 114, 111, 99]⟩ g)))) = g.bind fun _ i => procG L n i := by
  cases g with
  | bad fc fp => rfl
  | ok u i =>
    unfold thenTk
    rw [bind_ok, bind_ok]
    unfold procG
    show _ = (tk L n ⟨#[112, 114, 111, 99]⟩ i).bind _
    cases tk L n ⟨#[112, 114, 111, 99]⟩ i with
    | bad fc fp => rfl
    | ok u i1 =>
      rw [bind_ok, bind_ok]
      unfold thenNm
      rw [bind_ok]
      unfold nameG
      by_cases hn : nmB L i1 = true
      · rw [if_pos hn, if_pos hn, bind_ok]
        unfold blkG
        cases tk L n ⟨#[123]⟩ (i1 + 1) with
        | bad fc fp => rfl
        | ok u i2 =>
          rw [bind_ok, bind_ok]
          unfold thenSs
          rw [bind_ok]
          cases rdS L n 6 i2 60 with
          | bad fc fp => rfl
          | ok b i3 =>
            rw [bind_ok, bind_ok, bind_ok]
            cases tk L n ⟨#[125]⟩ i3 with
            | bad fc fp => rfl
            | ok u i4 => rfl
      · rw [if_neg hn, if_neg hn]; rfl
theorem thenTk_inv {α : Type} {L : List Sg} {n q : Nat} {s : ByteArray} {g : Got α} {x : α} (h : thenTk L n s g = .ok x q) : ∃ i, g = .ok x i := by
  obtain ⟨y, i, h1, h2⟩ := bind_ok_inv h
  obtain ⟨_, q1, h3, h4⟩ := bind_ok_inv h2
  injection h4 with h5 _
  exact ⟨i, h5 ▸ h1⟩

def toRes (g : Got Pg) : Pg × Int × Int := match g with
  | .bad c p => (noPg, c, (p : Int))
  | .ok p q => (p, 0, 0)
def rdGX (L : List Sg) (n : Nat) (g0 : Got Unit) : Got Pg := (thenLs L n ⟨#[103, 108, 111, 98, 97, 108, 115]⟩ g0).bind fun gl i => pgL L n gl i
theorem readP_res {s : ByteArray} (h : (lexR s).2.1 = 0) : readP s = toRes (rdGX (lexR s).1 s.size (.ok () 0)) := by
  rw [readP_at h, show rdGX (lexR s).1 s.size (.ok () 0) = rdG (lexR s).1 s.size from rfl]
  cases rdG (lexR s).1 s.size <;> rfl
/-- where the loop stands -/
def PgSt (wl wr : World) (L : List Sg) (n : Nat) (FIN : Got Pg) (a0 a1 : Nat) (gA : Option Addr) (gm gc : Nat) (lA : Option Addr) (lm lc : Nat) (acc : List Pr) (v : Value) : Got Unit → Prop
  | .ok _ j => ∃ gl ll, gm = gl.length ∧ gm ≤ gc ∧ gc ≤ maxLen ∧ StrRowO wr (fun b => a0 ≤ b ∧ b < a1) gA gl ∧ lm = ll.length ∧ lm ≤ lc ∧ lc ≤ maxLen ∧ StrRowO wr (fun b => a1 + 1 ≤ b ∧ b < wl.heap.size) lA ll ∧ acc.length ≤ 8 ∧ GrwP wl.heap.size wr v acc ∧ FIN = pgP gl ll (prR L n (8 - acc.length) acc j)
  | .bad fc fp => ¬ fc = 0 ∧ FIN = .bad fc fp
theorem pgSt_start {wl : World} {L : List Sg} {n : Nat} {g0 : Got Unit} {a0 a1 : Nat} {gA lA : Option Addr} {gm gc lm lc : Nat}
    (hg : ∀ l q, thenLs L n ⟨#[103, 108, 111, 98, 97, 108, 115]⟩ g0 = .ok l q → gm = l.length ∧ gm ≤ gc ∧ gc ≤ maxLen ∧ StrRowO wl (fun b => a0 ≤ b ∧ b < a1) gA l)
    (hl : ∀ l q, thenLs L n ⟨#[108, 111, 99, 107, 115]⟩ (thenLs L n ⟨#[103, 108, 111, 98, 97, 108, 115]⟩ g0) = .ok l q → lm = l.length ∧ lm ≤ lc ∧ lc ≤ maxLen ∧ StrRowO wl (fun b => a1 + 1 ≤ b ∧ b < wl.heap.size) lA l)
    {rb : Nat} {A : Option Addr} {c : Nat} {lf : Int} (hr : RsSt wl rb A c n L (thenLs L n ⟨#[108, 111, 99, 107, 115]⟩ (thenLs L n ⟨#[103, 108, 111, 98, 97, 108, 115]⟩ g0)) lf) :
    ∃ g : Got Unit, RsSt wl rb A c n L g lf ∧ PgSt wl wl L n (rdGX L n g0) a0 a1 gA gm gc lA lm lc [] (.slice none 0 0) g := by
  unfold rdGX
  generalize thenLs L n ⟨#[103, 108, 111, 98, 97, 108, 115]⟩ g0 = ga at *
  cases ga with
  | bad fc fp => exact ⟨.bad fc fp, hr, hr.1, rfl⟩
  | ok gl i1 =>
    have e : thenLs L n ⟨#[108, 111, 99, 107, 115]⟩ (Got.ok gl i1) = nmsG L n ⟨#[108, 111, 99, 107, 115]⟩ 6 i1 := rfl
    rw [e] at hl hr
    rw [bind_ok, pgL_eq]
    show ∃ g : Got Unit, _ ∧ PgSt wl wl L n ((nmsG L n ⟨#[108, 111, 99, 107, 115]⟩ 6 i1).bind _) a0 a1 gA gm gc lA lm lc [] (.slice none 0 0) g
    generalize nmsG L n ⟨#[108, 111, 99, 107, 115]⟩ 6 i1 = gb at *
    cases gb with
    | bad fc fp => exact ⟨.bad fc fp, hr, hr.1, rfl⟩
    | ok ll j =>
      obtain ⟨a, b, c, d⟩ := hg _ _ rfl
      obtain ⟨a', b', c', d'⟩ := hl _ _ rfl
      exact ⟨.ok () j, hr, gl, ll, a, b, c, d, a', b', c', d', by simp, GrwP.nil (Nat.le_refl _), rfl⟩
/-- what a procedure read leads to -/
def NextOf (L : List Sg) (n : Nat) (FIN : Got Pg) (gl ll : List ByteArray) (acc : List Pr) (j : Nat) : Got Pr → Prop
  | .bad fc fp => FIN = .bad fc fp
  | .ok p q => acc.length < 8 ∧ FIN = pgP gl ll (prR L n (8 - (acc ++ [p]).length) (acc ++ [p]) q) ∧ j < q ∧ q ≤ L.length
theorem next_of {L : List Sg} {n : Nat} {FIN : Got Pg} {gl ll : List ByteArray} {acc : List Pr} {j : Nat} (hj : j < L.length) (hch : FIN = pgP gl ll (prR L n (8 - acc.length) acc j)) (h8 : 8 - acc.length = 0 → ¬ tx L j = ⟨#[112, 114, 111, 99]⟩): NextOf L n FIN gl ll acc j (procG L n j) := by
  cases hg : procG L n j with
  | bad fc fp => exact (by rw [hch, prR_bad hj hg h8]; rfl)
  | ok p q =>
    have hok := procG_ok hg
    have hr8 : ∃ r, 8 - acc.length = r + 1 := by
      rcases Nat.eq_zero_or_pos (8 - acc.length) with h | h
      · exfalso
        rw [procG_bad (h8 h)] at hg
        cases hg
      · exact ⟨8 - acc.length - 1, by omega⟩
    obtain ⟨r8, hr8⟩ := hr8
    refine ⟨by omega, ?_, hok.2.2, hok.2.1⟩
    rw [hch, hr8, prR_step hj hg]
    congr 2
    simp
    omega
end Go.Proofs.YtdanlgmpgdipnaaDoor
