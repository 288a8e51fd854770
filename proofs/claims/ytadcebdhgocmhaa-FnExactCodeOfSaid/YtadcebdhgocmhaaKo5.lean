/- Lemmas for the row. -/
import Derived.Test.YtadcebdhgocmhaaKo4
namespace Go.Proofs.Ytadcebdhgocmhaa
open Go.RowKit
set_option linter.unusedVariables false
abbrev SzC (t : Tm) : Prop := ∀ (k n : Int) (s : ByteArray) (A : Option Addr) (m c : Nat) (w : World) (left : Int), TmIs AnyB w [.int .i64 k, .int .i64 n, .string s, .slice A m c] t → 0 ≤ left → left ≤ 1048576 →
  Calls Try.prog 122 #[.agg #[.int .i64 k, .int .i64 n, .string s, .slice A m c], .int .i64 left] w fun e w' => e = .returned (.int .i64 (cut0 (left - (totT t : Int)))) ∧ Below w.heap.size w w'
set_option maxHeartbeats 400000 in
theorem laws_szTermS (ts : List Tm) (ih : ∀ t ∈ ts, SzC t) (A : Option Addr) (c : Nat) (w : World) (left : Int) (row : TmRow AnyB w A ts) (hl : ts.length ≤ c) (hc : c ≤ maxLen) (h0 : 0 ≤ left) (h1 : left ≤ 1048576) :
    Calls Try.prog 124 #[.slice A ts.length c, .int .i64 left] w fun e w' => e = .returned (.int .i64 (cut0 (left - (totTs ts : Int)))) ∧ Below w.heap.size w w' := by
  unfold maxLen at hc
  have IH := Lib.hid ih
  have RW := Lib.hid row
  have hlen := totTs_len ts
  clear ih row
  by_cases g0 : left - (ts.length : Int) < 0
  · have F := Lib.hid (cut0_neg (n := left - (totTs ts : Int)) (by omega))
    go_enter Try.func124, Try.ntmps124
    go_wp2_with fail
    go_ret
    exact ⟨ret_int F.out.symm, Below.refl _ _⟩
  · go_enter Try.func124, Try.ntmps124
    go_wp2_with fail
    go_loopw [1, 5] (fun l i wr => ∃ (k : Nat) (m : Int), k ≤ ts.length ∧ i = .int .i64 k ∧ l = .int .i64 m ∧ 0 ≤ m ∧ m ≤ left ∧ Hid (m = left - ((ts.length : Int) - (k : Int)) - (totTs (ts.take k) : Int)) ∧ Below w.heap.size w wr) (fun _ i _ => ts.length - (intOf i).toNat)
    case atStart => exact ⟨0, _, Nat.zero_le _, rfl, rfl, by omega, by omega, Lib.hid (by simp [totTs]), Below.refl _ _⟩
    case round =>
      obtain ⟨k, m, hk, rfl, rfl, hm0, hm1, HM, hb⟩ := hrel
      have HB := Lib.hid hb
      clear hb
      by_cases hlt : k < ts.length
      · obtain ⟨b, off, kd, nn, s, A', m', c', rfl, _, d0, d1, d2, d3, ht⟩ := rd_term (RW.out.belowA HB.out) hlt
        have HT := Lib.hid ht
        have HS := Lib.hid (totTs_take ts k hlt)
        have HD := Lib.hid (totTs_drop ts (k + 1) hlt)
        have h0k : (0 : Int) ≤ (k : Int) := by omega
        clear ht hlen
        go_wp2_with fail
        refine (IH.out _ (List.getElem_mem hlt) kd nn s A' m' c' _ m HT.out hm0 (by omega)).mono ?_
        rintro e w1 ⟨rfl, b1⟩
        have B1 := Lib.hid (HB.out.trans (b1.mono HB.out.size))
        clear b1
        by_cases g1 : m - (totT ts[k] : Int) < 0
        · rw [cut0_neg g1]
          go_wp2_with fail
          go_ret
          refine ⟨ret_int ?_, B1.out⟩
          have e1 := HS.out
          have e2 := HD.out
          have e3 := HM.out
          exact (cut0_neg (by omega)).symm
        · rw [cut0_pos (by omega)]
          go_wp2_with fail
          go_roundw
          case rel =>
            refine ⟨k + 1, m - (totT ts[k] : Int), by omega, by go_num, rfl, by omega, by omega, Lib.hid ?_, B1.out⟩
            have e1 := HS.out
            have e3 := HM.out
            omega
          case measure => simp [intOf]; omega
      · go_wp2_with fail
        go_ret
        refine ⟨ret_int ?_, HB.out⟩
        have e3 := HM.out
        rw [List.take_of_length_le (by omega)] at e3
        rw [cut0_pos (by omega)]
        omega
set_option maxHeartbeats 400000 in
theorem laws_szTerm (t : Tm) : SzC t := by
  induction hN : nodes t using Nat.strongRecOn generalizing t with
  | ind N ih =>
    intro k n s A m c w left ht h0 h1
    obtain ⟨kids, rfl, rfl, hl, hc, _, _, hs, row⟩ := ht.inv
    have IH : Hid (∀ x ∈ kids, SzC x) := Lib.hid fun x hx => ih (nodes x) (by rw [← hN]; exact kid_lt hx) x rfl
    have RW := Lib.hid row
    have HT : totT (.mk k n s kids) = s.size + totTs kids := by rw [totT]
    have HTT := Lib.hid HT
    unfold maxLen at hs
    clear ih hN ht row HT
    by_cases g0 : left - (s.size : Int) < 0
    · have F := Lib.hid (cut0_neg (n := left - (totT (.mk k n s kids) : Int)) (by rw [HTT.out]; omega))
      go_enter Try.func122, Try.ntmps122
      go_wp2_with fail
      go_ret
      exact ⟨ret_int F.out.symm, (by repeat' first|exact .refl _ _|exact Nat.le_refl _|refine .alloc ?_ ?_ _|refine .setCell ?_ ?_ _|refine .drew ?_|refine below_drewN ?_ _|assumption|(simp;done)|(simp;omega))⟩
    · have g0' : 0 ≤ left - (s.size : Int) := by omega
      go_enter Try.func122, Try.ntmps122
      go_wp2_with fail
      refine (laws_szTermS kids IH.out A c _ (left - (s.size : Int)) ?_ hl hc g0' (by omega)).mono ?_
      · exact RW.out.belowA (by repeat' first|exact .refl _ _|exact Nat.le_refl _|refine .alloc ?_ ?_ _|refine .setCell ?_ ?_ _|refine .drew ?_|refine below_drewN ?_ _|assumption|(simp;done)|(simp;omega))
      rintro e w1 ⟨rfl, b1⟩
      have B1 : Below w.heap.size w w1 := Below.trans (by repeat' first|exact .refl _ _|exact Nat.le_refl _|refine .alloc ?_ ?_ _|refine .setCell ?_ ?_ _|refine .drew ?_|refine below_drewN ?_ _|assumption|(simp;done)|(simp;omega)) (b1.mono (by simp))
      have HB := Lib.hid B1
      clear b1 B1
      by_cases g1 : left - (s.size : Int) - (totTs kids : Int) < 0
      · rw [cut0_neg g1]
        go_wp2_with fail
        go_ret
        exact ⟨ret_int (by rw [HTT.out]; exact (cut0_neg (by omega)).symm), HB.out⟩
      · rw [cut0_pos (by omega)]
        go_wp2_with fail
        go_ret
        exact ⟨ret_int (by rw [HTT.out, cut0_pos (by omega)]; omega), HB.out⟩
theorem TmRow.mono {lo lo' : Nat} {w : World} {A : Option Addr} {ts : List Tm} (h : TmRow (Fr lo w) w A ts) (hl : lo' ≤ lo) : TmRow (Fr lo' w) w A ts := h.keep (fun _ _ _ => rfl) (fun b _ ⟨h1, h2⟩ => ⟨by omega, h2⟩)
theorem old_cells {W w1 : World} (hb : Below W.heap.size W w1) : (∀ b o, b < W.heap.size → w1.cell? ⟨b, o, none⟩ = W.cell? ⟨b, o, none⟩) ∧ (∀ b o, b < W.heap.size → w1.frozen? ⟨b, o, none⟩ = W.frozen? ⟨b, o, none⟩) :=
  ⟨fun b o h => hb.cell (p := ⟨b, o, none⟩) h, fun b o h => hb.frozen (p := ⟨b, o, none⟩) h⟩
abbrev V4 := Value × Value × Value × Value
def f4 (x : V4) : List Value := [x.1, x.2.1, x.2.2.1, x.2.2.2]
theorem f4_len (x : V4) : (f4 x).length = 4 := rfl
def z4 : V4 := (.int .i64 0, .int .i64 0, .string ByteArray.empty, .slice none 0 0)
def vt (k n : Int) (s : ByteArray) (A : Option Addr) (m c : Nat) : V4 := (.int .i64 k, .int .i64 n, .string s, .slice A m c)
def put4 (w : World) (g o : Nat) (x : V4) : World := (((w.setCell ⟨g, o, none⟩ x.1).setCell ⟨g, o + 1, none⟩ x.2.1).setCell ⟨g, o + 2, none⟩ x.2.2.1).setCell ⟨g, o + 3, none⟩ x.2.2.2
theorem Own.put4 {w0 w : World} {e : TypeId} {g n cap : Nat} {xs : List Value} (h : Own w0 w e 4 (.slice (some ⟨g, 0, none⟩) n cap) n xs) (o : Nat) (x : V4) : Own w0 (put4 w g o x) e 4 (.slice (some ⟨g, 0, none⟩) n cap) n (sets xs o (f4 x)) :=
  (((h.set o x.1).set (o + 1) x.2.1).set (o + 2) x.2.2.1).set (o + 3) x.2.2.2
theorem put4_size (w : World) (g o : Nat) (x : V4) : (put4 w g o x).heap.size = w.heap.size := by simp [put4]
theorem flat_chunk {α : Type} (f : α → List Value) (sz : Nat) (hf : ∀ x, (f x).length = sz) (xs : List α) (k : Nat) (hk : k < xs.length) : ((xs.flatMap f).drop (k * sz)).take sz = f xs[k] := by
  apply List.ext_getElem?
  intro j
  rw [List.getElem?_take]
  by_cases hj : j < sz
  · rw [if_pos hj, List.getElem?_drop, flat_get f sz hf xs k j hk hj]
  · rw [if_neg hj, List.getElem?_eq_none (by rw [hf]; omega)]
theorem fill_get {α : Type} {us : List α} {n : Nat} {z : α} (h : us.length < n) : us.length < (us ++ List.replicate (n - us.length) z).length := by simp; omega
theorem fill_set {α : Type} {us : List α} {n : Nat} {z u : α} (h : us.length < n) : (us ++ List.replicate (n - us.length) z).set us.length u = (us ++ [u]) ++ List.replicate (n - (us ++ [u]).length) z := by
  have e : n - us.length = (n - (us ++ [u]).length) + 1 := by simp; omega
  rw [List.set_append_right _ _ (Nat.le_refl _), Nat.sub_self, e, List.replicate_succ, List.set_cons_zero]
  simp
def Box4 (w : World) (g : Nat) (x : V4) : Prop := w.cell? ⟨g, 0, none⟩ = some x.1 ∧ w.cell? ⟨g, 1, none⟩ = some x.2.1 ∧ w.cell? ⟨g, 2, none⟩ = some x.2.2.1 ∧ w.cell? ⟨g, 3, none⟩ = some x.2.2.2
theorem Box4.below {w w' : World} {g : Nat} {x : V4} (h : Box4 w g x) (hb : Below w.heap.size w w') : Box4 w' g x := ⟨cell_keep hb h.1, cell_keep hb h.2.1, cell_keep hb h.2.2.1, cell_keep hb h.2.2.2⟩
theorem Box4.new (w : World) (x : V4) (e : TypeId) : Box4 (w.alloc (.cells #[x.1, x.2.1, x.2.2.1, x.2.2.2] e)) w.heap.size x := by
  refine ⟨?_, ?_, ?_, ?_⟩ <;> rw [World.cell?_alloc_new] <;> rfl
theorem Box4.lit {w : World} {g : Nat} {a b c d : Value} {e : TypeId} (h : g = w.heap.size) : Box4 (w.alloc (.cells #[a, b, c, d] e)) g (a, b, c, d) := by
  subst h
  refine ⟨?_, ?_, ?_, ?_⟩ <;> rw [World.cell?_alloc_new] <;> rfl
theorem Box4.lt {w : World} {g : Nat} {x : V4} (h : Box4 w g x) : g < w.heap.size := cell_lt h.1
theorem tmT : ElemT Try.prog 32 34 4 56 := ElemT.mk' (z := .agg #[.int .i64 0, .int .i64 0, .string ByteArray.empty, .slice none 0 0]) Try.underlying32 (by kernel_rfl) rfl (by decide)
theorem tmZ : (Try.prog.info? 34).map (fun i => i.zero) = some (some (.agg #[.int .i64 0, .int .i64 0, .string ByteArray.empty, .slice none 0 0])) := by kernel_rfl
abbrev EqC (t : Tm) : Prop := ∀ (u : Tm) (k n : Int) (s : ByteArray) (A : Option Addr) (m c : Nat) (k' n' : Int) (s' : ByteArray) (A' : Option Addr) (m' c' : Nat) (w : World), TmIs AnyB w [.int .i64 k, .int .i64 n, .string s, .slice A m c] t → TmIs AnyB w [.int .i64 k', .int .i64 n', .string s', .slice A' m' c'] u →
  Calls Try.prog 106 #[.agg #[.int .i64 k, .int .i64 n, .string s, .slice A m c], .agg #[.int .i64 k', .int .i64 n', .string s', .slice A' m' c']] w fun e w' => e = .returned (.bool (sameB t u)) ∧ Below w.heap.size w w'
set_option maxHeartbeats 800000 in
theorem laws_eqTermS (ss tt : List Tm) (ih : ∀ t ∈ ss, EqC t) (A A' : Option Addr) (c c' : Nat) (w : World) (row : TmRow AnyB w A ss) (row' : TmRow AnyB w A' tt) (hl : ss.length ≤ c) (hl' : tt.length ≤ c') (hc : c ≤ maxLen) (hc' : c' ≤ maxLen) :
    Calls Try.prog 117 #[.slice A ss.length c, .slice A' tt.length c'] w fun e w' => e = .returned (.bool (samesB ss tt)) ∧ Below w.heap.size w w' := by
  unfold maxLen at hc hc'
  have IH := Lib.hid ih
  have RW := Lib.hid row
  have RW' := Lib.hid row'
  clear ih row row'
  by_cases g0 : ss.length = tt.length
  · have g1 : ((ss.length : Int) != (tt.length : Int)) = false := by simp [g0]
    have G := Lib.hid g0
    clear g0
    go_enter Try.func117, Try.ntmps117
    go_wp2_with fail
    go_loopw [5] (fun i wr => ∃ k : Nat, k ≤ ss.length ∧ i = .int .i64 k ∧ Below w.heap.size w wr ∧ Hid (ss.take k = tt.take k)) (fun i _ => ss.length - (intOf i).toNat)
    case atStart => exact ⟨0, Nat.zero_le _, rfl, Below.refl _ _, Lib.hid rfl⟩
    case round =>
      obtain ⟨k, hk, rfl, hb, HT⟩ := hrel
      have HB := Lib.hid hb
      clear hb
      by_cases hlt : k < ss.length
      · have hlt' : k < tt.length := by rw [← G.out]; exact hlt
        obtain ⟨b, off, k1, n1, s1, A1, m1, c1, rfl, _, d0, d1, d2, d3, ht⟩ := rd_term (RW.out.belowA HB.out) hlt
        obtain ⟨b', off', k2, n2, s2, A2, m2, c2, rfl, _, e0, e1, e2, e3, ht'⟩ := rd_term (RW'.out.belowA HB.out) hlt'
        have T1 := Lib.hid ht
        have T2 := Lib.hid ht'
        clear ht ht'
        have h0k : (0 : Int) ≤ (k : Int) := by omega
        have h1k : (k : Int) < (ss.length : Int) := by omega
        have h2k : (k : Int) < (tt.length : Int) := by omega
        by_cases e : sameB ss[k] tt[k] = true
        · go_wp2_with fail
          go_region_held3 (fun w' => w'.cell? ⟨b, off + k * 4, none⟩ = some (.int .i64 k1) ∧ w'.cell? ⟨b, off + k * 4 + 1, none⟩ = some (.int .i64 n1) ∧ w'.cell? ⟨b, off + k * 4 + 2, none⟩ = some (.string s1) ∧ w'.cell? ⟨b, off + k * 4 + 3, none⟩ = some (.slice A1 m1 c1) ∧ w'.cell? ⟨b', off' + k * 4, none⟩ = some (.int .i64 k2) ∧ w'.cell? ⟨b', off' + k * 4 + 1, none⟩ = some (.int .i64 n2) ∧ w'.cell? ⟨b', off' + k * 4 + 2, none⟩ = some (.string s2) ∧ w'.cell? ⟨b', off' + k * 4 + 3, none⟩ = some (.slice A2 m2 c2))
            (first | go_keep | exact ⟨cell_keep b1 d0, cell_keep b1 d1, cell_keep b1 d2, cell_keep b1 d3, cell_keep b1 e0, cell_keep b1 e1, cell_keep b1 e2, cell_keep b1 e3⟩)
            (first | (go_at_call 106; refine (IH.out _ (List.getElem_mem hlt) tt[k] k1 n1 s1 A1 m1 c1 k2 n2 s2 A2 m2 c2 _ (by exact T1.out.drew) (by exact T2.out.drew)).mono ?_; rintro e w1 ⟨rfl, b1⟩))
          all_goals
            go_wp2_with fail
            go_roundw
            case rel => exact ⟨k + 1, by omega, by go_num, HB.out.drew.trans (b1.mono HB.out.size), Lib.hid (take_eq_succ HT.out hlt hlt' (sameB_true e))⟩
            case measure => simp [intOf]; omega
        · have e' := bool_no e
          go_wp2_with fail
          go_region_held3 (fun w' => w'.cell? ⟨b, off + k * 4, none⟩ = some (.int .i64 k1) ∧ w'.cell? ⟨b, off + k * 4 + 1, none⟩ = some (.int .i64 n1) ∧ w'.cell? ⟨b, off + k * 4 + 2, none⟩ = some (.string s1) ∧ w'.cell? ⟨b, off + k * 4 + 3, none⟩ = some (.slice A1 m1 c1) ∧ w'.cell? ⟨b', off' + k * 4, none⟩ = some (.int .i64 k2) ∧ w'.cell? ⟨b', off' + k * 4 + 1, none⟩ = some (.int .i64 n2) ∧ w'.cell? ⟨b', off' + k * 4 + 2, none⟩ = some (.string s2) ∧ w'.cell? ⟨b', off' + k * 4 + 3, none⟩ = some (.slice A2 m2 c2))
            (first | go_keep | exact ⟨cell_keep b1 d0, cell_keep b1 d1, cell_keep b1 d2, cell_keep b1 d3, cell_keep b1 e0, cell_keep b1 e1, cell_keep b1 e2, cell_keep b1 e3⟩)
            (first | (go_at_call 106; refine (IH.out _ (List.getElem_mem hlt) tt[k] k1 n1 s1 A1 m1 c1 k2 n2 s2 A2 m2 c2 _ (by exact T1.out.drew) (by exact T2.out.drew)).mono ?_; rintro e w1 ⟨rfl, b1⟩))
          all_goals
            go_wp2_with fail
            go_ret
            exact ⟨ret_bool (samesB_no (fun e => sameB_false e' (by subst e; rfl))).symm, HB.out.drew.trans (b1.mono HB.out.size)⟩
      · go_wp2_with fail
        go_ret
        have e : ss = tt := by
          have := HT.out
          rwa [List.take_of_length_le (by omega), List.take_of_length_le (by rw [← G.out]; omega)] at this
        exact ⟨ret_bool (samesB_yes e).symm, HB.out⟩
  · have g1 : ((ss.length : Int) != (tt.length : Int)) = true := by simp; omega
    have G := Lib.hid g0
    clear g0
    go_enter Try.func117, Try.ntmps117
    go_wp2_with fail
    go_ret
    exact ⟨ret_bool (samesB_no (fun e => G.out (by rw [e]))).symm, Below.refl _ _⟩
set_option maxHeartbeats 400000 in
theorem laws_eqTerm (t : Tm) : EqC t := by
  induction hN : nodes t using Nat.strongRecOn generalizing t with
  | ind N ih =>
    intro u k n s A m c k' n' s' A' m' c' w ht hu
    obtain ⟨kids, rfl, rfl, hl, hc, _, _, _, row⟩ := ht.inv
    obtain ⟨kids', rfl, rfl, hl', hc', _, _, _, row'⟩ := hu.inv
    have IH : Hid (∀ x ∈ kids, EqC x) := Lib.hid fun x hx => ih (nodes x) (by rw [← hN]; exact kid_lt hx) x rfl
    have RW := Lib.hid row
    have RW' := Lib.hid row'
    clear ih hN ht hu row row'
    have q := str_eq s s'
    by_cases c1 : k = k'
    · by_cases c2 : n = n'
      · by_cases c3 : s = s'
        · have q1 : (k != k') = false := by simp [c1]
          have q2 : (n != n') = false := by simp [c2]
          rw [decide_eq_true c3] at q
          have C := Lib.hid (And.intro c1 (And.intro c2 c3))
          clear c1 c2 c3
          go_enter Try.func106, Try.ntmps106
          go_wp2_with fail
          refine (laws_eqTermS kids kids' IH.out A A' c c' _ ?_ ?_ hl hl' hc hc').mono ?_
          · exact RW.out.belowA (by repeat' first|exact .refl _ _|exact Nat.le_refl _|refine .alloc ?_ ?_ _|refine .setCell ?_ ?_ _|refine .drew ?_|refine below_drewN ?_ _|assumption|(simp;done)|(simp;omega))
          · exact RW'.out.belowA (by repeat' first|exact .refl _ _|exact Nat.le_refl _|refine .alloc ?_ ?_ _|refine .setCell ?_ ?_ _|refine .drew ?_|refine below_drewN ?_ _|assumption|(simp;done)|(simp;omega))
          rintro e w1 ⟨rfl, b1⟩
          have B1 : Below w.heap.size w w1 := Below.trans (by repeat' first|exact .refl _ _|exact Nat.le_refl _|refine .alloc ?_ ?_ _|refine .setCell ?_ ?_ _|refine .drew ?_|refine below_drewN ?_ _|assumption|(simp;done)|(simp;omega)) (b1.mono (by simp; omega))
          have HB := Lib.hid B1
          clear b1 B1
          by_cases e : kids = kids'
          · rw [samesB_yes e]
            have HE := Lib.hid e
            clear e
            go_wp2_with fail
            go_ret
            obtain ⟨x1, x2, x3⟩ := C.out
            exact ⟨ret_bool (sameB_yes (by rw [x1, x2, x3, HE.out])).symm, HB.out⟩
          · rw [samesB_no e]
            have HE := Lib.hid e
            clear e
            go_wp2_with fail
            go_ret
            exact ⟨ret_bool (sameB_no (fun e => HE.out (by injection e))).symm, HB.out⟩
        · have q1 : (k != k') = false := by simp [c1]
          have q2 : (n != n') = false := by simp [c2]
          rw [decide_no c3] at q
          have C := Lib.hid c3
          clear c1 c2 c3
          go_enter Try.func106, Try.ntmps106
          go_wp2_with fail
          go_ret
          exact ⟨ret_bool (sameB_no (fun e => C.out (by injection e))).symm, (by repeat' first|exact .refl _ _|exact Nat.le_refl _|refine .alloc ?_ ?_ _|refine .setCell ?_ ?_ _|refine .drew ?_|refine below_drewN ?_ _|assumption|(simp;done)|(simp;omega))⟩
      · have q1 : (k != k') = false := by simp [c1]
        have q2 : (n != n') = true := by simpa using c2
        have C := Lib.hid c2
        clear c1 c2
        go_enter Try.func106, Try.ntmps106
        go_wp2_with fail
        go_ret
        exact ⟨ret_bool (sameB_no (fun e => C.out (by injection e))).symm, (by repeat' first|exact .refl _ _|exact Nat.le_refl _|refine .alloc ?_ ?_ _|refine .setCell ?_ ?_ _|refine .drew ?_|refine below_drewN ?_ _|assumption|(simp;done)|(simp;omega))⟩
    · have q1 : (k != k') = true := by simpa using c1
      have C := Lib.hid c1
      clear c1
      go_enter Try.func106, Try.ntmps106
      go_wp2_with fail
      go_ret
      exact ⟨ret_bool (sameB_no (fun e => C.out (by injection e))).symm, (by repeat' first|exact .refl _ _|exact Nat.le_refl _|refine .alloc ?_ ?_ _|refine .setCell ?_ ?_ _|refine .drew ?_|refine below_drewN ?_ _|assumption|(simp;done)|(simp;omega))⟩
end Go.Proofs.Ytadcebdhgocmhaa
