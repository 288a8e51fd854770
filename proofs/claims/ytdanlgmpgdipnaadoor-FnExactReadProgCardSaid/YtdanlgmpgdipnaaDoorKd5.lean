/- Several texts in one: Terms, TermHelp. -/
import Derived.Test.YtdanlgmpgdipnaaDoorKd4
import Derived.Deep.RegionHeld3
import Derived.Lib.SmallJoins
namespace Go.Proofs.YtdanlgmpgdipnaaDoor
open Go.RowKit
set_option linter.unusedVariables false


inductive Tm where
  | mk (kind num : Int) (name : ByteArray) (kids : List Tm)
def Tm.kind : Tm → Int | .mk k _ _ _ => k
def Tm.num : Tm → Int | .mk _ n _ _ => n
def Tm.name : Tm → ByteArray | .mk _ _ s _ => s
def Tm.kids : Tm → List Tm | .mk _ _ _ l => l
mutual
/-- how many terms it is, itself too -/
def nodes : Tm → Nat | .mk _ _ _ kids => 1 + nodess kids
def nodess : List Tm → Nat | [] => 0 | t :: r => nodes t + nodess r
end
theorem nodess_le {l : List Tm} {x : Tm} (h : x ∈ l) : nodes x ≤ nodess l := by
  induction l with
  | nil => cases h
  | cons y r ih =>
    rw [nodess]
    rcases List.mem_cons.1 h with rfl | h
    · omega
    · have := ih h; omega
theorem kid_lt {k n : Int} {s : ByteArray} {kids : List Tm} {x : Tm} (h : x ∈ kids) : nodes x < nodes (Tm.mk k n s kids) := by
  have := nodess_le h
  rw [nodes]
  omega
def i64in (n : Int) : Prop := -9223372036854775808 ≤ n ∧ n ≤ 9223372036854775807
/-- the four cells of a term; F is asked of each block in which kids lie -/
inductive TmIs (F : Nat → Prop) (w : World) : List Value → Tm → Prop
  | mk (k n : Int) (s : ByteArray) (A : Option Addr) (c : Nat) (cs : List Value) (kids : List Tm) (hk : i64in k) (hn : i64in n) (hs : s.size ≤ maxLen) (hl : kids.length ≤ c) (hc : c ≤ maxLen) (rd : Rd w 4 A kids.length cs)
      (hF : ∀ b off, A = some ⟨b, off, none⟩ → 0 < kids.length → F b) (hx : ∀ i (h : i < kids.length), TmIs F w ((cs.drop (i * 4)).take 4) kids[i]) : TmIs F w [.int .i64 k, .int .i64 n, .string s, .slice A kids.length c] (.mk k n s kids)
/-- a row of terms -/
def TmRow (F : Nat → Prop) (w : World) (A : Option Addr) (ts : List Tm) : Prop :=
  ∃ cs, Rd w 4 A ts.length cs ∧ (∀ b off, A = some ⟨b, off, none⟩ → 0 < ts.length → F b) ∧ ∀ i (h : i < ts.length), TmIs F w ((cs.drop (i * 4)).take 4) ts[i]
theorem TmIs.inv {F : Nat → Prop} {w : World} {k n : Int} {s : ByteArray} {A : Option Addr} {m c : Nat} {t : Tm} (h : TmIs F w [.int .i64 k, .int .i64 n, .string s, .slice A m c] t) :
    ∃ kids, t = .mk k n s kids ∧ m = kids.length ∧ kids.length ≤ c ∧ c ≤ maxLen ∧ i64in k ∧ i64in n ∧ s.size ≤ maxLen ∧ TmRow F w A kids := by
  cases h with
  | mk _ _ _ _ _ cs kids hk hn hs hl hc rd hF hx => exact ⟨kids, rfl, rfl, hl, hc, hk, hn, hs, cs, rd, hF, hx⟩
theorem TmIs.mk' {F : Nat → Prop} {w : World} {k n : Int} {s : ByteArray} {A : Option Addr} {c : Nat} {kids : List Tm} (hk : i64in k) (hn : i64in n) (hs : s.size ≤ maxLen) (hl : kids.length ≤ c) (hc : c ≤ maxLen) (row : TmRow F w A kids) :
    TmIs F w [.int .i64 k, .int .i64 n, .string s, .slice A kids.length c] (.mk k n s kids) := by
  obtain ⟨cs, rd, hF, hx⟩ := row
  exact .mk k n s A c cs kids hk hn hs hl hc rd hF hx
theorem TmIs.form {F : Nat → Prop} {w : World} {cs : List Value} {t : Tm} (h : TmIs F w cs t) : ∃ k n s A m c, cs = [.int .i64 k, .int .i64 n, .string s, .slice A m c] := by
  cases h with
  | mk k n s A c cs kids hk hn hs hl hc rd hF hx => exact ⟨k, n, s, A, _, c, rfl⟩
theorem TmIs.keep {F F' : Nat → Prop} {w w' : World} {cs : List Value} {t : Tm} (h : TmIs F w cs t) (hk : ∀ p : Addr, p.block < w.heap.size → F p.block → w'.cell? p = w.cell? p) (hF : ∀ b, b < w.heap.size → F b → F' b) : TmIs F' w' cs t := by
  induction h with
  | mk k n s A c cs kids h1 h2 h3 hl hc rd hf hx ih =>
    refine .mk k n s A c cs kids h1 h2 h3 hl hc ⟨rd.1, fun hn => ?_⟩ (fun b off e hn => ?_) ih
    · obtain ⟨b, off, e, hcell⟩ := rd.2 hn
      exact ⟨b, off, e, fun j u hu => (hk _ (cell_lt (hcell j u hu)) (hf b off e hn)).trans (hcell j u hu)⟩
    · obtain ⟨b', off', e', hcell⟩ := rd.2 hn
      rw [e'] at e
      injection e with e
      injection e with e1 e2
      subst e1 e2
      refine hF _ ?_ (hf _ _ e' hn)
      have h0 : 0 < cs.length := by rw [rd.1]; omega
      exact cell_lt (hcell 0 _ (List.getElem?_eq_getElem h0))
theorem TmRow.keep {F F' : Nat → Prop} {w w' : World} {A : Option Addr} {ts : List Tm} (h : TmRow F w A ts) (hk : ∀ p : Addr, p.block < w.heap.size → F p.block → w'.cell? p = w.cell? p) (hF : ∀ b, b < w.heap.size → F b → F' b) : TmRow F' w' A ts := by
  obtain ⟨cs, rd, hf, hx⟩ := h
  refine ⟨cs, ⟨rd.1, fun hn => ?_⟩, fun b off e hn => ?_, fun i hi => (hx i hi).keep hk hF⟩
  · obtain ⟨b, off, e, hcell⟩ := rd.2 hn
    exact ⟨b, off, e, fun j u hu => (hk _ (cell_lt (hcell j u hu)) (hf b off e hn)).trans (hcell j u hu)⟩
  · obtain ⟨b', off', e', hcell⟩ := rd.2 hn
    rw [e'] at e
    injection e with e
    injection e with e1 e2
    subst e1 e2
    refine hF _ ?_ (hf _ _ e' hn)
    have h0 : 0 < cs.length := by rw [rd.1]; omega
    exact cell_lt (hcell 0 _ (List.getElem?_eq_getElem h0))
/-- any block at all -/
abbrev AnyB : Nat → Prop := fun _ => True
/-- blocks made since lo, of plain cells -/
def Fr (lo : Nat) (w : World) : Nat → Prop := fun b => lo ≤ b ∧ ∃ cur e, w.heap[b]? = some (.cells cur e (0, 0))
theorem TmIs.any {F : Nat → Prop} {w : World} {cs : List Value} {t : Tm} (h : TmIs F w cs t) : TmIs AnyB w cs t := h.keep (fun _ _ _ => rfl) (fun _ _ _ => trivial)
theorem TmRow.any {F : Nat → Prop} {w : World} {A : Option Addr} {ts : List Tm} (h : TmRow F w A ts) : TmRow AnyB w A ts := h.keep (fun _ _ _ => rfl) (fun _ _ _ => trivial)
theorem TmIs.belowA {w w' : World} {cs : List Value} {t : Tm} (h : TmIs AnyB w cs t) (hb : Below w.heap.size w w') : TmIs AnyB w' cs t := h.keep (fun _ hp _ => hb.cell hp) (fun _ _ _ => trivial)
theorem TmRow.belowA {w w' : World} {A : Option Addr} {ts : List Tm} (h : TmRow AnyB w A ts) (hb : Below w.heap.size w w') : TmRow AnyB w' A ts := h.keep (fun _ hp _ => hb.cell hp) (fun _ _ _ => trivial)
theorem TmIs.drew {w : World} {cs : List Value} {t : Tm} (h : TmIs AnyB w cs t) : TmIs AnyB w.drew cs t := h.belowA (Below.refl _ _).drew
theorem TmRow.drew {w : World} {A : Option Addr} {ts : List Tm} (h : TmRow AnyB w A ts) : TmRow AnyB w.drew A ts := h.belowA (Below.refl _ _).drew
theorem Fr.below {lo : Nat} {w w' : World} (hb : Below w.heap.size w w') : ∀ b, b < w.heap.size → Fr lo w b → Fr lo w' b := fun b hlt ⟨h1, cur, e, h2⟩ => ⟨h1, cur, e, (hb.block b hlt).trans h2⟩
theorem TmIs.mono {lo lo' : Nat} {w : World} {cs : List Value} {t : Tm} (h : TmIs (Fr lo w) w cs t) (hl : lo' ≤ lo) : TmIs (Fr lo' w) w cs t := h.keep (fun _ _ _ => rfl) (fun b _ ⟨h1, h2⟩ => ⟨by omega, h2⟩)
/-- the cells of element k of a row -/
theorem rd_term {F : Nat → Prop} {w : World} {A : Option Addr} {ts : List Tm} (row : TmRow F w A ts) {k : Nat} (hk : k < ts.length) :
    ∃ b off kd n s A' m c, A = some ⟨b, off, none⟩ ∧ F b ∧ w.cell? ⟨b, off + k * 4, none⟩ = some (.int .i64 kd) ∧ w.cell? ⟨b, off + k * 4 + 1, none⟩ = some (.int .i64 n) ∧ w.cell? ⟨b, off + k * 4 + 2, none⟩ = some (.string s) ∧ w.cell? ⟨b, off + k * 4 + 3, none⟩ = some (.slice A' m c) ∧
      TmIs F w [.int .i64 kd, .int .i64 n, .string s, .slice A' m c] ts[k] := by
  obtain ⟨cs, rd, hF, hx⟩ := row
  obtain ⟨b, off, e, hc⟩ := rd.2 (by omega)
  have h := hx k hk
  obtain ⟨kd, n, s, A', m, c, e1⟩ := h.form
  rw [e1] at h
  exact ⟨b, off, kd, n, s, A', m, c, e, hF b off e (by omega), hc _ _ ((chunk_get (r := 0) (by omega) e1).trans rfl), hc _ _ ((chunk_get (r := 1) (by omega) e1).trans rfl), hc _ _ ((chunk_get (r := 2) (by omega) e1).trans rfl), hc _ _ ((chunk_get (r := 3) (by omega) e1).trans rfl), h⟩
/-- whether two terms are the same -/
noncomputable def sameB (a b : Tm) : Bool := @decide (a = b) (Classical.propDecidable _)
theorem sameB_yes {a b : Tm} (h : a = b) : sameB a b = true := by unfold sameB; exact @decide_eq_true _ (Classical.propDecidable _) h
theorem sameB_no {a b : Tm} (h : a ≠ b) : sameB a b = false := by unfold sameB; exact @decide_eq_false _ (Classical.propDecidable _) h
noncomputable def samesB (a b : List Tm) : Bool := @decide (a = b) (Classical.propDecidable _)
theorem samesB_yes {a b : List Tm} (h : a = b) : samesB a b = true := by unfold samesB; exact @decide_eq_true _ (Classical.propDecidable _) h
theorem samesB_no {a b : List Tm} (h : a ≠ b) : samesB a b = false := by unfold samesB; exact @decide_eq_false _ (Classical.propDecidable _) h
theorem sameB_true {a b : Tm} (h : sameB a b = true) : a = b := Classical.byContradiction fun hn => by rw [sameB_no hn] at h; cases h
theorem sameB_false {a b : Tm} (h : sameB a b = false) : a ≠ b := fun e => by rw [sameB_yes e] at h; cases h

theorem TmRow.mono {lo lo' : Nat} {w : World} {A : Option Addr} {ts : List Tm} (h : TmRow (Fr lo w) w A ts) (hl : lo' ≤ lo) : TmRow (Fr lo' w) w A ts := h.keep (fun _ _ _ => rfl) (fun b _ ⟨h1, h2⟩ => ⟨by omega, h2⟩)
theorem old_cells {W w1 : World} (hb : Below W.heap.size W w1) : (∀ b o, b < W.heap.size → w1.cell? ⟨b, o, none⟩ = W.cell? ⟨b, o, none⟩) ∧ (∀ b o, b < W.heap.size → w1.frozen? ⟨b, o, none⟩ = W.frozen? ⟨b, o, none⟩) :=
  ⟨fun b o h => hb.cell (p := ⟨b, o, none⟩) h, fun b o h => hb.frozen (p := ⟨b, o, none⟩) h⟩
/-- four cells, as one thing -/
abbrev V4 := Value × Value × Value × Value
def f4 (x : V4) : List Value := [x.1, x.2.1, x.2.2.1, x.2.2.2]
theorem flat_chunk {α : Type} (f : α → List Value) (sz : Nat) (hf : ∀ x, (f x).length = sz) (xs : List α) (k : Nat) (hk : k < xs.length) : ((xs.flatMap f).drop (k * sz)).take sz = f xs[k] := by
  apply List.ext_getElem?
  intro j
  rw [List.getElem?_take]
  by_cases hj : j < sz
  · rw [if_pos hj, List.getElem?_drop, flat_get f sz hf xs k j hk hj]
  · rw [if_neg hj, List.getElem?_eq_none (by rw [hf]; omega)]
/-- a variable that holds a term: its four cells -/
def Box4 (w : World) (g : Nat) (x : V4) : Prop := w.cell? ⟨g, 0, none⟩ = some x.1 ∧ w.cell? ⟨g, 1, none⟩ = some x.2.1 ∧ w.cell? ⟨g, 2, none⟩ = some x.2.2.1 ∧ w.cell? ⟨g, 3, none⟩ = some x.2.2.2
theorem Box4.below {w w' : World} {g : Nat} {x : V4} (h : Box4 w g x) (hb : Below w.heap.size w w') : Box4 w' g x := ⟨cell_keep hb h.1, cell_keep hb h.2.1, cell_keep hb h.2.2.1, cell_keep hb h.2.2.2⟩
theorem Box4.new (w : World) (x : V4) (e : TypeId) : Box4 (w.alloc (.cells #[x.1, x.2.1, x.2.2.1, x.2.2.2] e)) w.heap.size x := by
  refine ⟨?_, ?_, ?_, ?_⟩ <;> rw [World.cell?_alloc_new] <;> rfl
theorem Box4.lit {w : World} {g : Nat} {a b c d : Value} {e : TypeId} (h : g = w.heap.size) : Box4 (w.alloc (.cells #[a, b, c, d] e)) g (a, b, c, d) := by
  subst h
  refine ⟨?_, ?_, ?_, ?_⟩ <;> rw [World.cell?_alloc_new] <;> rfl
theorem Box4.lt {w : World} {g : Nat} {x : V4} (h : Box4 w g x) : g < w.heap.size := cell_lt h.1
theorem tmT : ElemT Tryd.prog 63 65 4 56 := ElemT.mk' (z := .agg #[.int .i64 0, .int .i64 0, .string ByteArray.empty, .slice none 0 0]) Tryd.underlying63 (by kernel_rfl) rfl (by decide)
abbrev EqC (t : Tm) : Prop := ∀ (u : Tm) (k n : Int) (s : ByteArray) (A : Option Addr) (m c : Nat) (k' n' : Int) (s' : ByteArray) (A' : Option Addr) (m' c' : Nat) (w : World), TmIs AnyB w [.int .i64 k, .int .i64 n, .string s, .slice A m c] t → TmIs AnyB w [.int .i64 k', .int .i64 n', .string s', .slice A' m' c'] u →
  Calls Tryd.prog 68 #[.agg #[.int .i64 k, .int .i64 n, .string s, .slice A m c], .agg #[.int .i64 k', .int .i64 n', .string s', .slice A' m' c']] w fun e w' => e = .returned (.bool (sameB t u)) ∧ Below w.heap.size w w'
set_option maxHeartbeats 800000 in
theorem laws_eqTermS (ss tt : List Tm) (ih : ∀ t ∈ ss, EqC t) (A A' : Option Addr) (c c' : Nat) (w : World) (row : TmRow AnyB w A ss) (row' : TmRow AnyB w A' tt) (hl : ss.length ≤ c) (hl' : tt.length ≤ c') (hc : c ≤ maxLen) (hc' : c' ≤ maxLen) :
    Calls Tryd.prog 72 #[.slice A ss.length c, .slice A' tt.length c'] w fun e w' => e = .returned (.bool (samesB ss tt)) ∧ Below w.heap.size w w' := by
  unfold maxLen at hc hc'
  have IH := Lib.hid ih
  have RW := Lib.hid row
  have RW' := Lib.hid row'
  clear ih row row'
  by_cases g0 : ss.length = tt.length
  · have g1 : ((ss.length : Int) != (tt.length : Int)) = false := by simp [g0]
    have G := Lib.hid g0
    clear g0
    go_enter Tryd.func72, Tryd.ntmps72
    go_wp2_with fail
    go_loopw [5] (fun i wr => ∃ k : Nat, k ≤ ss.length ∧ i = .int .i64 k ∧ Below w.heap.size w wr ∧ Hid (ss.take k = tt.take k)) (fun i _ => ss.length - (intOf i).toNat)
    case atStart => exact ⟨0, Nat.zero_le _, rfl, Below.refl _ _, Lib.hid rfl⟩
    case round =>
      obtain ⟨k, hk, rfl, hb, HT⟩ := hrel
      have HB := Lib.hid hb
      clear hb
      by_cases hlt : k < ss.length
      · have hlt' : k < tt.length := by rw [← G.out]; exact hlt
        obtain ⟨b, off, k1, n1, s1, A1, m1, c1, rfl, _, d0, d1, d2, d3, ht⟩ := rd_term (RW.out.belowA HB.out) hlt
        obtain ⟨b', off', k2, n2, s2, A2, m2, c2, rfl, _, e0, e1, e2, e3, ht'⟩ := rd_term (RW'.out.belowA HB.out) hlt'
        have T1 := Lib.hid ht
        have T2 := Lib.hid ht'
        clear ht ht'
        have h0k : (0 : Int) ≤ (k : Int) := by omega
        have h1k : (k : Int) < (ss.length : Int) := by omega
        have h2k : (k : Int) < (tt.length : Int) := by omega
        by_cases e : sameB ss[k] tt[k] = true
        · go_wp2_with fail
          go_region_held3 (fun w' => w'.cell? ⟨b, off + k * 4, none⟩ = some (.int .i64 k1) ∧ w'.cell? ⟨b, off + k * 4 + 1, none⟩ = some (.int .i64 n1) ∧ w'.cell? ⟨b, off + k * 4 + 2, none⟩ = some (.string s1) ∧ w'.cell? ⟨b, off + k * 4 + 3, none⟩ = some (.slice A1 m1 c1) ∧ w'.cell? ⟨b', off' + k * 4, none⟩ = some (.int .i64 k2) ∧ w'.cell? ⟨b', off' + k * 4 + 1, none⟩ = some (.int .i64 n2) ∧ w'.cell? ⟨b', off' + k * 4 + 2, none⟩ = some (.string s2) ∧ w'.cell? ⟨b', off' + k * 4 + 3, none⟩ = some (.slice A2 m2 c2))
            (first | go_keep | exact ⟨cell_keep b1 d0, cell_keep b1 d1, cell_keep b1 d2, cell_keep b1 d3, cell_keep b1 e0, cell_keep b1 e1, cell_keep b1 e2, cell_keep b1 e3⟩)
            (first | (go_at_call 68; refine (IH.out _ (List.getElem_mem hlt) tt[k] k1 n1 s1 A1 m1 c1 k2 n2 s2 A2 m2 c2 _ (by exact T1.out.drew) (by exact T2.out.drew)).mono ?_; rintro e w1 ⟨rfl, b1⟩))
          all_goals
            go_wp2_with fail
            go_roundw
            case rel => exact ⟨k + 1, by omega, by go_num, HB.out.drew.trans (b1.mono HB.out.size), Lib.hid (take_eq_succ HT.out hlt hlt' (sameB_true e))⟩
            case measure => simp [intOf]; omega
        · have e' := bool_no e
          go_wp2_with fail
          go_region_held3 (fun w' => w'.cell? ⟨b, off + k * 4, none⟩ = some (.int .i64 k1) ∧ w'.cell? ⟨b, off + k * 4 + 1, none⟩ = some (.int .i64 n1) ∧ w'.cell? ⟨b, off + k * 4 + 2, none⟩ = some (.string s1) ∧ w'.cell? ⟨b, off + k * 4 + 3, none⟩ = some (.slice A1 m1 c1) ∧ w'.cell? ⟨b', off' + k * 4, none⟩ = some (.int .i64 k2) ∧ w'.cell? ⟨b', off' + k * 4 + 1, none⟩ = some (.int .i64 n2) ∧ w'.cell? ⟨b', off' + k * 4 + 2, none⟩ = some (.string s2) ∧ w'.cell? ⟨b', off' + k * 4 + 3, none⟩ = some (.slice A2 m2 c2))
            (first | go_keep | exact ⟨cell_keep b1 d0, cell_keep b1 d1, cell_keep b1 d2, cell_keep b1 d3, cell_keep b1 e0, cell_keep b1 e1, cell_keep b1 e2, cell_keep b1 e3⟩)
            (first | (go_at_call 68; refine (IH.out _ (List.getElem_mem hlt) tt[k] k1 n1 s1 A1 m1 c1 k2 n2 s2 A2 m2 c2 _ (by exact T1.out.drew) (by exact T2.out.drew)).mono ?_; rintro e w1 ⟨rfl, b1⟩))
          all_goals
            go_wp2_with fail
            go_ret
            exact ⟨ret_bool (samesB_no (fun e => sameB_false e' (by subst e; rfl))).symm, HB.out.drew.trans (b1.mono HB.out.size)⟩
      · go_wp2_with fail
        go_ret
        have e : ss = tt := by
          have := HT.out
          rwa [List.take_of_length_le (by omega), List.take_of_length_le (by rw [← G.out]; omega)] at this
        exact ⟨ret_bool (samesB_yes e).symm, HB.out⟩
  · have g1 : ((ss.length : Int) != (tt.length : Int)) = true := by simp; omega
    have G := Lib.hid g0
    clear g0
    go_enter Tryd.func72, Tryd.ntmps72
    go_wp2_with fail
    go_ret
    exact ⟨ret_bool (samesB_no (fun e => G.out (by rw [e]))).symm, Below.refl _ _⟩
set_option maxHeartbeats 400000 in
theorem laws_eqTerm (t : Tm) : EqC t := by
  induction hN : nodes t using Nat.strongRecOn generalizing t with
  | ind N ih =>
    intro u k n s A m c k' n' s' A' m' c' w ht hu
    obtain ⟨kids, rfl, rfl, hl, hc, _, _, _, row⟩ := ht.inv
    obtain ⟨kids', rfl, rfl, hl', hc', _, _, _, row'⟩ := hu.inv
    have IH : Hid (∀ x ∈ kids, EqC x) := Lib.hid fun x hx => ih (nodes x) (by rw [← hN]; exact kid_lt hx) x rfl
    have RW := Lib.hid row
    have RW' := Lib.hid row'
    clear ih hN ht hu row row'
    have q := str_eq s s'
    by_cases c1 : k = k'
    · by_cases c2 : n = n'
      · by_cases c3 : s = s'
        · have q1 : (k != k') = false := by simp [c1]
          have q2 : (n != n') = false := by simp [c2]
          rw [decide_eq_true c3] at q
          have C := Lib.hid (And.intro c1 (And.intro c2 c3))
          clear c1 c2 c3
          go_enter Tryd.func68, Tryd.ntmps68
          go_wp2_with fail
          refine (laws_eqTermS kids kids' IH.out A A' c c' _ ?_ ?_ hl hl' hc hc').mono ?_
          · exact RW.out.belowA (by repeat' (first | exact Below.refl _ _ | exact Nat.le_refl _ | (refine Below.alloc ?_ ?_ _) | (refine Below.setCell ?_ ?_ _) | (refine Below.drew ?_) | (refine below_drewN ?_ _) | assumption | (simp; done) | (simp; omega)))
          · exact RW'.out.belowA (by repeat' (first | exact Below.refl _ _ | exact Nat.le_refl _ | (refine Below.alloc ?_ ?_ _) | (refine Below.setCell ?_ ?_ _) | (refine Below.drew ?_) | (refine below_drewN ?_ _) | assumption | (simp; done) | (simp; omega)))
          rintro e w1 ⟨rfl, b1⟩
          have B1 : Below w.heap.size w w1 := Below.trans (by repeat' (first | exact Below.refl _ _ | exact Nat.le_refl _ | (refine Below.alloc ?_ ?_ _) | (refine Below.setCell ?_ ?_ _) | (refine Below.drew ?_) | (refine below_drewN ?_ _) | assumption | (simp; done) | (simp; omega))) (b1.mono (by simp; omega))
          have HB := Lib.hid B1
          clear b1 B1
          by_cases e : kids = kids'
          · rw [samesB_yes e]
            have HE := Lib.hid e
            clear e
            go_wp2_with fail
            go_ret
            obtain ⟨x1, x2, x3⟩ := C.out
            exact ⟨ret_bool (sameB_yes (by rw [x1, x2, x3, HE.out])).symm, HB.out⟩
          · rw [samesB_no e]
            have HE := Lib.hid e
            clear e
            go_wp2_with fail
            go_ret
            exact ⟨ret_bool (sameB_no (fun e => HE.out (by injection e))).symm, HB.out⟩
        · have q1 : (k != k') = false := by simp [c1]
          have q2 : (n != n') = false := by simp [c2]
          rw [decide_no c3] at q
          have C := Lib.hid c3
          clear c1 c2 c3
          go_enter Tryd.func68, Tryd.ntmps68
          go_wp2_with fail
          go_ret
          exact ⟨ret_bool (sameB_no (fun e => C.out (by injection e))).symm, (by repeat' (first | exact Below.refl _ _ | exact Nat.le_refl _ | (refine Below.alloc ?_ ?_ _) | (refine Below.setCell ?_ ?_ _) | (refine Below.drew ?_) | (refine below_drewN ?_ _) | assumption | (simp; done) | (simp; omega)))⟩
      · have q1 : (k != k') = false := by simp [c1]
        have q2 : (n != n') = true := by simpa using c2
        have C := Lib.hid c2
        clear c1 c2
        go_enter Tryd.func68, Tryd.ntmps68
        go_wp2_with fail
        go_ret
        exact ⟨ret_bool (sameB_no (fun e => C.out (by injection e))).symm, (by repeat' (first | exact Below.refl _ _ | exact Nat.le_refl _ | (refine Below.alloc ?_ ?_ _) | (refine Below.setCell ?_ ?_ _) | (refine Below.drew ?_) | (refine below_drewN ?_ _) | assumption | (simp; done) | (simp; omega)))⟩
    · have q1 : (k != k') = true := by simpa using c1
      have C := Lib.hid c1
      clear c1
      go_enter Tryd.func68, Tryd.ntmps68
      go_wp2_with fail
      go_ret
      exact ⟨ret_bool (sameB_no (fun e => C.out (by injection e))).symm, (by repeat' (first | exact Below.refl _ _ | exact Nat.le_refl _ | (refine Below.alloc ?_ ?_ _) | (refine Below.setCell ?_ ?_ _) | (refine Below.drew ?_) | (refine below_drewN ?_ _) | assumption | (simp; done) | (simp; omega)))⟩
end Go.Proofs.YtdanlgmpgdipnaaDoor
