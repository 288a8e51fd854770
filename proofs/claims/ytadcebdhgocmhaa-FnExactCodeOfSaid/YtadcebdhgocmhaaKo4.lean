/- Lemmas for the row. -/
import Derived.Test.YtadcebdhgocmhaaKo1
import Derived.Deep.QuietTactic
import Derived.BigQuiet
import Derived.SliceStrings
import Derived.WideShapes
import Derived.Test.YtadcebdhgocmhaaKo2
import Derived.Deep.RegionHeld3
import Derived.Lib.SmallJoins
namespace Go.Proofs.Ytadcebdhgocmhaa
open Go.RowKit
set_option linter.unusedVariables false
def IsStrs (w : World) (v : Value) (ss : List ByteArray) : Prop := ∃ A c, v = .slice A ss.length c ∧ ss.length ≤ c ∧ c ≤ maxLen ∧ Rd w 1 A ss.length (ss.map Value.string)
theorem IsStrs.below {w w' : World} {v : Value} {ss : List ByteArray} (h : IsStrs w v ss) (hb : Below w.heap.size w w') : IsStrs w' v ss := by
  obtain ⟨A, c, e, h1, h2, h3⟩ := h
  exact ⟨A, c, e, h1, h2, h3.below hb⟩
theorem rd_str {w : World} {A : Option Addr} {ss : List ByteArray} (rd : Rd w 1 A ss.length (ss.map Value.string)) {k : Nat} (hk : k < ss.length) : ∃ b off, A = some ⟨b, off, none⟩ ∧ w.cell? ⟨b, off + k, none⟩ = some (.string ss[k]) := by
  obtain ⟨b, off, e, hc⟩ := rd.2 (by omega)
  exact ⟨b, off, e, hc k _ (by simp [hk])⟩
def totS (ss : List ByteArray) : Nat := ss.length + (ss.map ByteArray.size).sum
def cut0 (n : Int) : Int := if n < 0 then -1 else n
theorem sum_take (l : List Nat) (k : Nat) (h : k < l.length) : (l.take (k + 1)).sum = (l.take k).sum + l[k] := by
  have e : l.take (k + 1) = l.take k ++ [l[k]] := List.take_succ_eq_append_getElem h
  rw [e, List.sum_append, List.sum_cons, List.sum_nil, Nat.add_zero]
theorem sum_take_le (l : List Nat) (k : Nat) : (l.take k).sum ≤ l.sum := by
  have e : l.sum = (l.take k).sum + (l.drop k).sum := by rw [← List.sum_append, List.take_append_drop]
  omega
theorem cut0_neg {n : Int} (h : n < 0) : cut0 n = -1 := by simp [cut0, h]
theorem cut0_pos {n : Int} (h : 0 ≤ n) : cut0 n = n := by simp [cut0]; omega
theorem strT : ElemT Try.prog 24 9 1 16 := ElemT.mk' (z := .string ByteArray.empty) Try.underlying24 (by kernel_rfl) rfl (by decide)
theorem strZ : (Try.prog.info? 9).map (fun i => i.zero) = some (some (.string ByteArray.empty)) := by kernel_rfl
set_option maxHeartbeats 400000 in
theorem laws_szStringS (v : Value) (ss : List ByteArray) (left : Int) (w : World) (h : IsStrs w v ss) (hs : ∀ s ∈ ss, s.size ≤ maxLen) (h0 : 0 ≤ left) (h1 : left ≤ 1048576) :
    Calls Try.prog 43 #[v, .int .i64 left] w fun e w' => e = .returned (.int .i64 (cut0 (left - (totS ss : Int)))) ∧ w = w' := by
  obtain ⟨A, c, rfl, h2, h3, rd⟩ := h
  unfold maxLen at h3
  have RD := Lib.hid rd
  clear rd
  by_cases g0 : left - (ss.length : Int) < 0
  · have F := Lib.hid (cut0_neg (n := left - (totS ss : Int)) (by unfold totS; omega))
    go_enter Try.func43, Try.ntmps43
    go_wp2_with fail
    go_ret
    exact ⟨ret_int F.out.symm, rfl⟩
  · go_enter Try.func43, Try.ntmps43
    go_wp2_with fail
    go_loop [1, 5] (fun l i => ∃ (k : Nat) (m : Int), k ≤ ss.length ∧ i = .int .i64 k ∧ l = .int .i64 m ∧ 0 ≤ m ∧ m ≤ left ∧ Hid (m = left - (ss.length : Int) - (((ss.map ByteArray.size).take k).sum : Int))) (fun _ i => ss.length - (intOf i).toNat)
    case atStart => exact ⟨0, _, Nat.zero_le _, rfl, rfl, by omega, by omega, Lib.hid (by simp)⟩
    case round =>
      obtain ⟨k, m, hk, rfl, rfl, hm0, hm1, HM⟩ := hrel
      by_cases hlt : k < ss.length
      · obtain ⟨b, off, rfl, hcell⟩ := rd_str RD.out hlt
        have hsz := hs ss[k] (List.getElem_mem hlt)
        unfold maxLen at hsz
        have HS := Lib.hid (sum_take (ss.map ByteArray.size) k (by simpa using hlt))
        have HL := Lib.hid (sum_take_le (ss.map ByteArray.size) (k + 1))
        have h0k : (0 : Int) ≤ (k : Int) := by omega
        clear hs
        by_cases g1 : m - (ss[k].size : Int) < 0
        · go_wp2_with fail
          go_ret
          refine ⟨ret_int ?_, rfl⟩
          have e1 := HS.out
          have e2 := HL.out
          have e3 := HM.out
          simp only [List.getElem_map] at e1
          exact (cut0_neg (by unfold totS; omega)).symm
        · go_wp2_with fail
          go_round
          case rel =>
            refine ⟨k + 1, m - (ss[k].size : Int), by omega, by go_num, rfl, by omega, by omega, Lib.hid ?_⟩
            have e1 := HS.out
            have e3 := HM.out
            simp only [List.getElem_map] at e1
            omega
          case measure => simp [intOf]; omega
      · go_wp2_with fail
        go_ret
        refine ⟨ret_int ?_, rfl⟩
        have e3 := HM.out
        rw [List.take_of_length_le (by simp; omega)] at e3
        rw [cut0_pos (by unfold totS; omega)]
        unfold totS
        omega
set_option maxHeartbeats 400000 in
theorem laws_eqStringS (v u : Value) (ss tt : List ByteArray) (w : World) (h : IsStrs w v ss) (h' : IsStrs w u tt) :
    Calls Try.prog 51 #[v, u] w fun e w' => e = .returned (.bool (decide (ss = tt))) ∧ Qt w w' := by
  obtain ⟨A, c, rfl, h2, h3, rd⟩ := h
  obtain ⟨A', c', rfl, h2', h3', rd'⟩ := h'
  unfold maxLen at h3 h3'
  have RD := Lib.hid rd
  have RD' := Lib.hid rd'
  clear rd rd'
  by_cases g0 : ss.length = tt.length
  · have g1 : ((ss.length : Int) != (tt.length : Int)) = false := by simp [g0]
    have G := Lib.hid g0
    clear g0
    go_enter Try.func51, Try.ntmps51
    go_wp2_with fail
    go_loopw [5] (fun i wr => ∃ (k m : Nat), k ≤ ss.length ∧ i = .int .i64 k ∧ wr = w.drewN m ∧ Hid (ss.take k = tt.take k)) (fun i _ => ss.length - (intOf i).toNat)
    case atStart => exact ⟨0, 0, Nat.zero_le _, rfl, rfl, Lib.hid rfl⟩
    case round =>
      obtain ⟨k, m, hk, rfl, rfl, HT⟩ := hrel
      by_cases hlt : k < ss.length
      · have hlt' : k < tt.length := by rw [← G.out]; exact hlt
        obtain ⟨b, off, rfl, hcell⟩ := rd_str RD.out hlt
        obtain ⟨b', off', rfl, hcell'⟩ := rd_str RD'.out hlt'
        have h0k : (0 : Int) ≤ (k : Int) := by omega
        have h1k : (k : Int) < (ss.length : Int) := by omega
        have h2k : (k : Int) < (tt.length : Int) := by omega
        have q := str_eq ss[k] tt[k]
        by_cases e : ss[k] = tt[k]
        · have HE := Lib.hid e
          rw [decide_eq_true e] at q
          clear e
          go_wp2_with fail
          go_quiet (fail)
          go_wp2_with fail
          go_roundw
          case rel => exact ⟨k + 1, _, by omega, by go_num, rfl, Lib.hid (take_eq_succ HT.out hlt hlt' HE.out)⟩
          case measure => simp [intOf]; omega
        · have HE := Lib.hid e
          rw [decide_no e] at q
          clear e
          go_wp2_with fail
          go_quiet (fail)
          go_wp2_with fail
          go_ret
          exact ⟨ret_bool (decide_no (fun e => HE.out (by subst e; rfl))).symm, (Qt.of_drewN _ _).trans (Qt.of_drewN _ _)⟩
      · go_wp2_with fail
        go_ret
        have e : ss = tt := by
          have := HT.out
          rwa [List.take_of_length_le (by omega), List.take_of_length_le (by rw [← G.out]; omega)] at this
        exact ⟨ret_bool (decide_eq_true e).symm, ⟨_, rfl⟩⟩
  · have g1 : ((ss.length : Int) != (tt.length : Int)) = true := by simp; omega
    have G := Lib.hid g0
    clear g0
    go_enter Try.func51, Try.ntmps51
    go_wp2_with fail
    go_ret
    exact ⟨ret_bool (decide_no (fun e => G.out (by rw [e]))).symm, Qt.refl _⟩
def placeS (ss : List ByteArray) (x : ByteArray) : Int := match ss.findIdx? (fun s => decide (s = x)) with | some k => (k : Int) | none => -1
theorem placeS_at {ss : List ByteArray} {x : ByteArray} {k : Nat} (h : ∀ s ∈ ss.take k, s ≠ x) (hk : k < ss.length) (e : ss[k] = x) : placeS ss x = (k : Int) := by
  have : ss.findIdx? (fun s => decide (s = x)) = some k := by
    rw [List.findIdx?_eq_some_iff_getElem]
    refine ⟨hk, by simpa using e, fun j hj => ?_⟩
    have := h ss[j] (List.mem_take_iff_getElem.2 ⟨j, by omega, rfl⟩)
    simpa using this
  unfold placeS; rw [this]
theorem placeS_no {ss : List ByteArray} {x : ByteArray} (h : ∀ s ∈ ss, s ≠ x) : placeS ss x = -1 := by
  have : ss.findIdx? (fun s => decide (s = x)) = none := by
    rw [List.findIdx?_eq_none_iff]
    intro s hs
    simpa using h s hs
  unfold placeS; rw [this]
theorem take_all_succ {ss : List ByteArray} {x : ByteArray} {k : Nat} (h : ∀ s ∈ ss.take k, s ≠ x) (hk : k < ss.length) (e : ss[k] ≠ x) : ∀ s ∈ ss.take (k + 1), s ≠ x := by
  have e1 : ss.take (k + 1) = ss.take k ++ [ss[k]] := List.take_succ_eq_append_getElem hk
  rw [e1]
  intro s hs
  rcases List.mem_append.1 hs with h1 | h1
  · exact h s h1
  · rw [List.mem_singleton.1 h1]; exact e
set_option maxHeartbeats 400000 in
theorem spec_PlaceOf (v : Value) (ss : List ByteArray) (x : ByteArray) (w : World) (h : IsStrs w v ss) :
    Calls Try.prog 82 #[v, .string x] w fun e w' => e = .returned (.int .i64 (placeS ss x)) ∧ w = w' := by
  obtain ⟨A, c, rfl, h2, h3, rd⟩ := h
  unfold maxLen at h3
  have RD := Lib.hid rd
  clear rd
  go_enter Try.func82, Try.ntmps82
  go_wp2_with fail
  go_loop [5] (fun i => ∃ k : Nat, k ≤ ss.length ∧ i = .int .i64 k ∧ Hid (∀ s ∈ ss.take k, s ≠ x)) (fun i => ss.length - (intOf i).toNat)
  case atStart => exact ⟨0, Nat.zero_le _, rfl, Lib.hid (by simp)⟩
  case round =>
    obtain ⟨k, hk, rfl, HT⟩ := hrel
    by_cases hlt : k < ss.length
    · obtain ⟨b, off, rfl, hcell⟩ := rd_str RD.out hlt
      have h0k : (0 : Int) ≤ (k : Int) := by omega
      have q := str_eq ss[k] x
      by_cases e : ss[k] = x
      · have HE := Lib.hid e
        rw [decide_eq_true e] at q
        clear e
        go_wp2_with fail
        go_ret
        exact ⟨ret_int (placeS_at HT.out hlt HE.out).symm, rfl⟩
      · have HE := Lib.hid e
        rw [decide_no e] at q
        clear e
        go_wp2_with fail
        go_round
        case rel => exact ⟨k + 1, by omega, by go_num, Lib.hid (take_all_succ HT.out hlt HE.out)⟩
        case measure => simp [intOf]; omega
    · go_wp2_with fail
      go_ret
      refine ⟨ret_int (placeS_no ?_).symm, rfl⟩
      have := HT.out
      rwa [List.take_of_length_le (by omega)] at this
set_option maxHeartbeats 400000 in
theorem slices_Index (v : Value) (ss : List ByteArray) (x : ByteArray) (w : World) (h : IsStrs w v ss) :
    Calls Try.prog 74 #[v, .string x] w fun e w' => e = .returned (.int .i64 (placeS ss x)) ∧ w = w' := by
  obtain ⟨A, c, rfl, h2, h3, rd⟩ := h
  unfold maxLen at h3
  have RD := Lib.hid rd
  clear rd
  go_enter Try.func74, Try.ntmps74
  go_wp2_with fail
  go_loop [8] (fun i => ∃ k : Nat, k ≤ ss.length ∧ i = .int .i64 k ∧ Hid (∀ s ∈ ss.take k, s ≠ x)) (fun i => ss.length - (intOf i).toNat)
  case atStart => exact ⟨0, Nat.zero_le _, rfl, Lib.hid (by simp)⟩
  case round =>
    obtain ⟨k, hk, rfl, HT⟩ := hrel
    by_cases hlt : k < ss.length
    · obtain ⟨b, off, rfl, hcell⟩ := rd_str RD.out hlt
      have h0k : (0 : Int) ≤ (k : Int) := by omega
      have q := str_eq x ss[k]
      by_cases e : x = ss[k]
      · have HE := Lib.hid e
        rw [decide_eq_true e] at q
        clear e
        go_wp2_with fail
        go_ret
        exact ⟨ret_int (placeS_at HT.out hlt HE.out.symm).symm, rfl⟩
      · have HE := Lib.hid e
        rw [decide_no e] at q
        clear e
        go_wp2_with fail
        go_round
        case rel => exact ⟨k + 1, by omega, by go_num, Lib.hid (take_all_succ HT.out hlt (fun h => HE.out h.symm))⟩
        case measure => simp [intOf]; omega
    · go_wp2_with fail
      go_ret
      refine ⟨ret_int (placeS_no ?_).symm, rfl⟩
      have := HT.out
      rwa [List.take_of_length_le (by omega)] at this
theorem impl_PlaceOf (v : Value) (ss : List ByteArray) (x : ByteArray) (w : World) (h : IsStrs w v ss) :
    Calls Try.prog 85 #[v, .string x] w fun e w' => e = .returned (.int .i64 (placeS ss x)) ∧ w = w' := by
  go_enter Try.func85, Try.ntmps85
  go_wp2_with (go_at_call 74; refine (slices_Index _ ss _ _ h).mono ?_; rintro e w' ⟨rfl, rfl⟩)
  go_ret
  exact ⟨rfl, rfl⟩
inductive Tm where
  | mk (kind num : Int) (name : ByteArray) (kids : List Tm)
def Tm.kind : Tm → Int | .mk k _ _ _ => k
def Tm.num : Tm → Int | .mk _ n _ _ => n
def Tm.name : Tm → ByteArray | .mk _ _ s _ => s
def Tm.kids : Tm → List Tm | .mk _ _ _ l => l
mutual
def nodes : Tm → Nat | .mk _ _ _ kids => 1 + nodess kids
def nodess : List Tm → Nat | [] => 0 | t :: r => nodes t + nodess r
end
theorem nodess_le {l : List Tm} {x : Tm} (h : x ∈ l) : nodes x ≤ nodess l := by
  induction l with
  | nil => cases h
  | cons y r ih =>
    rw [nodess]
    rcases List.mem_cons.1 h with rfl | h
    · omega
    · have := ih h; omega
theorem kid_lt {k n : Int} {s : ByteArray} {kids : List Tm} {x : Tm} (h : x ∈ kids) : nodes x < nodes (Tm.mk k n s kids) := by
  have := nodess_le h
  rw [nodes]
  omega
mutual
def totT : Tm → Nat | .mk _ _ s kids => s.size + totTs kids
def totTs : List Tm → Nat | [] => 0 | t :: r => 1 + totT t + totTs r
end
theorem totTs_le {l : List Tm} {x : Tm} (h : x ∈ l) : totT x ≤ totTs l := by
  induction l with
  | nil => cases h
  | cons y r ih =>
    rw [totTs]
    rcases List.mem_cons.1 h with rfl | h
    · omega
    · have := ih h; omega
theorem totTs_len (l : List Tm) : l.length ≤ totTs l := by
  induction l with
  | nil => simp
  | cons y r ih => rw [totTs, List.length_cons]; omega
theorem totTs_append (l r : List Tm) : totTs (l ++ r) = totTs l + totTs r := by
  induction l with
  | nil => simp [totTs]
  | cons y t ih => rw [List.cons_append, totTs, totTs, ih]; omega
theorem totTs_take (l : List Tm) (k : Nat) (h : k < l.length) : totTs (l.take (k + 1)) = totTs (l.take k) + 1 + totT l[k] := by
  have e : l.take (k + 1) = l.take k ++ [l[k]] := List.take_succ_eq_append_getElem h
  rw [e, totTs_append, totTs, totTs]; omega
theorem totTs_drop (l : List Tm) (k : Nat) (h : k ≤ l.length) : totTs (l.take k) + (l.length - k) ≤ totTs l := by
  have e : totTs l = totTs (l.take k) + totTs (l.drop k) := by rw [← totTs_append, List.take_append_drop]
  have := totTs_len (l.drop k)
  simp at this
  omega
def i64in (n : Int) : Prop := -9223372036854775808 ≤ n ∧ n ≤ 9223372036854775807
theorem i64in_of {n : Int} (h : (Lit.int .i64 n).wf = true) : i64in n := by
  simp [Lit.wf, IntKind.min, IntKind.max, IntKind.signed, IntKind.bits] at h
  exact ⟨by omega, by omega⟩
inductive TmIs (F : Nat → Prop) (w : World) : List Value → Tm → Prop
  | mk (k n : Int) (s : ByteArray) (A : Option Addr) (c : Nat) (cs : List Value) (kids : List Tm) (hk : i64in k) (hn : i64in n) (hs : s.size ≤ maxLen) (hl : kids.length ≤ c) (hc : c ≤ maxLen) (rd : Rd w 4 A kids.length cs)
      (hF : ∀ b off, A = some ⟨b, off, none⟩ → 0 < kids.length → F b) (hx : ∀ i (h : i < kids.length), TmIs F w ((cs.drop (i * 4)).take 4) kids[i]) : TmIs F w [.int .i64 k, .int .i64 n, .string s, .slice A kids.length c] (.mk k n s kids)
def TmRow (F : Nat → Prop) (w : World) (A : Option Addr) (ts : List Tm) : Prop :=
  ∃ cs, Rd w 4 A ts.length cs ∧ (∀ b off, A = some ⟨b, off, none⟩ → 0 < ts.length → F b) ∧ ∀ i (h : i < ts.length), TmIs F w ((cs.drop (i * 4)).take 4) ts[i]
theorem TmIs.inv {F : Nat → Prop} {w : World} {k n : Int} {s : ByteArray} {A : Option Addr} {m c : Nat} {t : Tm} (h : TmIs F w [.int .i64 k, .int .i64 n, .string s, .slice A m c] t) :
    ∃ kids, t = .mk k n s kids ∧ m = kids.length ∧ kids.length ≤ c ∧ c ≤ maxLen ∧ i64in k ∧ i64in n ∧ s.size ≤ maxLen ∧ TmRow F w A kids := by
  cases h with
  | mk _ _ _ _ _ cs kids hk hn hs hl hc rd hF hx => exact ⟨kids, rfl, rfl, hl, hc, hk, hn, hs, cs, rd, hF, hx⟩
theorem TmIs.mk' {F : Nat → Prop} {w : World} {k n : Int} {s : ByteArray} {A : Option Addr} {c : Nat} {kids : List Tm} (hk : i64in k) (hn : i64in n) (hs : s.size ≤ maxLen) (hl : kids.length ≤ c) (hc : c ≤ maxLen) (row : TmRow F w A kids) :
    TmIs F w [.int .i64 k, .int .i64 n, .string s, .slice A kids.length c] (.mk k n s kids) := by
  obtain ⟨cs, rd, hF, hx⟩ := row
  exact .mk k n s A c cs kids hk hn hs hl hc rd hF hx
theorem TmIs.form {F : Nat → Prop} {w : World} {cs : List Value} {t : Tm} (h : TmIs F w cs t) : ∃ k n s A m c, cs = [.int .i64 k, .int .i64 n, .string s, .slice A m c] := by
  cases h with
  | mk k n s A c cs kids hk hn hs hl hc rd hF hx => exact ⟨k, n, s, A, _, c, rfl⟩
theorem TmIs.keep {F F' : Nat → Prop} {w w' : World} {cs : List Value} {t : Tm} (h : TmIs F w cs t) (hk : ∀ p : Addr, p.block < w.heap.size → F p.block → w'.cell? p = w.cell? p) (hF : ∀ b, b < w.heap.size → F b → F' b) : TmIs F' w' cs t := by
  induction h with
  | mk k n s A c cs kids h1 h2 h3 hl hc rd hf hx ih =>
    refine .mk k n s A c cs kids h1 h2 h3 hl hc ⟨rd.1, fun hn => ?_⟩ (fun b off e hn => ?_) ih
    · obtain ⟨b, off, e, hcell⟩ := rd.2 hn
      exact ⟨b, off, e, fun j u hu => (hk _ (cell_lt (hcell j u hu)) (hf b off e hn)).trans (hcell j u hu)⟩
    · obtain ⟨b', off', e', hcell⟩ := rd.2 hn
      rw [e'] at e
      injection e with e
      injection e with e1 e2
      subst e1 e2
      refine hF _ ?_ (hf _ _ e' hn)
      have h0 : 0 < cs.length := by rw [rd.1]; omega
      exact cell_lt (hcell 0 _ (List.getElem?_eq_getElem h0))
theorem TmRow.keep {F F' : Nat → Prop} {w w' : World} {A : Option Addr} {ts : List Tm} (h : TmRow F w A ts) (hk : ∀ p : Addr, p.block < w.heap.size → F p.block → w'.cell? p = w.cell? p) (hF : ∀ b, b < w.heap.size → F b → F' b) : TmRow F' w' A ts := by
  obtain ⟨cs, rd, hf, hx⟩ := h
  refine ⟨cs, ⟨rd.1, fun hn => ?_⟩, fun b off e hn => ?_, fun i hi => (hx i hi).keep hk hF⟩
  · obtain ⟨b, off, e, hcell⟩ := rd.2 hn
    exact ⟨b, off, e, fun j u hu => (hk _ (cell_lt (hcell j u hu)) (hf b off e hn)).trans (hcell j u hu)⟩
  · obtain ⟨b', off', e', hcell⟩ := rd.2 hn
    rw [e'] at e
    injection e with e
    injection e with e1 e2
    subst e1 e2
    refine hF _ ?_ (hf _ _ e' hn)
    have h0 : 0 < cs.length := by rw [rd.1]; omega
    exact cell_lt (hcell 0 _ (List.getElem?_eq_getElem h0))
abbrev AnyB : Nat → Prop := fun _ => True
def Fr (lo : Nat) (w : World) : Nat → Prop := fun b => lo ≤ b ∧ ∃ cur e, w.heap[b]? = some (.cells cur e (0, 0))
theorem TmIs.any {F : Nat → Prop} {w : World} {cs : List Value} {t : Tm} (h : TmIs F w cs t) : TmIs AnyB w cs t := h.keep (fun _ _ _ => rfl) (fun _ _ _ => trivial)
theorem TmRow.any {F : Nat → Prop} {w : World} {A : Option Addr} {ts : List Tm} (h : TmRow F w A ts) : TmRow AnyB w A ts := h.keep (fun _ _ _ => rfl) (fun _ _ _ => trivial)
theorem TmIs.belowA {w w' : World} {cs : List Value} {t : Tm} (h : TmIs AnyB w cs t) (hb : Below w.heap.size w w') : TmIs AnyB w' cs t := h.keep (fun _ hp _ => hb.cell hp) (fun _ _ _ => trivial)
theorem TmRow.belowA {w w' : World} {A : Option Addr} {ts : List Tm} (h : TmRow AnyB w A ts) (hb : Below w.heap.size w w') : TmRow AnyB w' A ts := h.keep (fun _ hp _ => hb.cell hp) (fun _ _ _ => trivial)
theorem TmIs.drew {w : World} {cs : List Value} {t : Tm} (h : TmIs AnyB w cs t) : TmIs AnyB w.drew cs t := h.belowA (Below.refl _ _).drew
theorem TmRow.drew {w : World} {A : Option Addr} {ts : List Tm} (h : TmRow AnyB w A ts) : TmRow AnyB w.drew A ts := h.belowA (Below.refl _ _).drew
theorem Fr.below {lo : Nat} {w w' : World} (hb : Below w.heap.size w w') : ∀ b, b < w.heap.size → Fr lo w b → Fr lo w' b := fun b hlt ⟨h1, cur, e, h2⟩ => ⟨h1, cur, e, (hb.block b hlt).trans h2⟩
theorem TmIs.mono {lo lo' : Nat} {w : World} {cs : List Value} {t : Tm} (h : TmIs (Fr lo w) w cs t) (hl : lo' ≤ lo) : TmIs (Fr lo' w) w cs t := h.keep (fun _ _ _ => rfl) (fun b _ ⟨h1, h2⟩ => ⟨by omega, h2⟩)
theorem rd_term {F : Nat → Prop} {w : World} {A : Option Addr} {ts : List Tm} (row : TmRow F w A ts) {k : Nat} (hk : k < ts.length) :
    ∃ b off kd n s A' m c, A = some ⟨b, off, none⟩ ∧ F b ∧ w.cell? ⟨b, off + k * 4, none⟩ = some (.int .i64 kd) ∧ w.cell? ⟨b, off + k * 4 + 1, none⟩ = some (.int .i64 n) ∧ w.cell? ⟨b, off + k * 4 + 2, none⟩ = some (.string s) ∧ w.cell? ⟨b, off + k * 4 + 3, none⟩ = some (.slice A' m c) ∧
      TmIs F w [.int .i64 kd, .int .i64 n, .string s, .slice A' m c] ts[k] := by
  obtain ⟨cs, rd, hF, hx⟩ := row
  obtain ⟨b, off, e, hc⟩ := rd.2 (by omega)
  have h := hx k hk
  obtain ⟨kd, n, s, A', m, c, e1⟩ := h.form
  rw [e1] at h
  exact ⟨b, off, kd, n, s, A', m, c, e, hF b off e (by omega), hc _ _ ((chunk_get (r := 0) (by omega) e1).trans rfl), hc _ _ ((chunk_get (r := 1) (by omega) e1).trans rfl), hc _ _ ((chunk_get (r := 2) (by omega) e1).trans rfl), hc _ _ ((chunk_get (r := 3) (by omega) e1).trans rfl), h⟩
noncomputable def sameB (a b : Tm) : Bool := @decide (a = b) (Classical.propDecidable _)
theorem sameB_yes {a b : Tm} (h : a = b) : sameB a b = true := by unfold sameB; exact @decide_eq_true _ (Classical.propDecidable _) h
theorem sameB_no {a b : Tm} (h : a ≠ b) : sameB a b = false := by unfold sameB; exact @decide_eq_false _ (Classical.propDecidable _) h
noncomputable def samesB (a b : List Tm) : Bool := @decide (a = b) (Classical.propDecidable _)
theorem samesB_yes {a b : List Tm} (h : a = b) : samesB a b = true := by unfold samesB; exact @decide_eq_true _ (Classical.propDecidable _) h
theorem samesB_no {a b : List Tm} (h : a ≠ b) : samesB a b = false := by unfold samesB; exact @decide_eq_false _ (Classical.propDecidable _) h
theorem sameB_true {a b : Tm} (h : sameB a b = true) : a = b := Classical.byContradiction fun hn => by rw [sameB_no hn] at h; cases h
theorem sameB_false {a b : Tm} (h : sameB a b = false) : a ≠ b := fun e => by rw [sameB_yes e] at h; cases h
set_option maxRecDepth 100000 in
theorem open_term_at {H : Type} {enc : TypeId × Value → H} {w : World} {base : Nat} {spare : Nat → Bool} {held : Bool} (fuel : Nat) : ∀ {cs : List Value} {y : DataW H × List MemPlace} (hf : DataW.trod enc Try.prog w base spare held fuel 135 cs = some y), ∃ t, TmIs AnyB w cs t := by
  induction fuel using Nat.strongRecOn with
  | ind fuel ih =>
    intro cs y hf
    have hl := struct_len Try.underlying135 hf
    obtain ⟨m0, y0, l0, h0⟩ := field_of Try.underlying135 hf 0 _ rfl
    obtain ⟨m1, y1, l1, h1⟩ := field_of Try.underlying135 hf 1 _ rfl
    obtain ⟨m2, y2, l2, h2⟩ := field_of Try.underlying135 hf 2 _ rfl
    obtain ⟨m3, y3, l3, h3⟩ := field_of Try.underlying135 hf 3 _ rfl
    replace h0 : DataW.trod enc Try.prog w base spare held m0 3 ((cs.drop 0).take (Try.prog.cellsOf 3)) = some y0 := h0
    replace h1 : DataW.trod enc Try.prog w base spare held m1 3 ((cs.drop 1).take (Try.prog.cellsOf 3)) = some y1 := h1
    replace h2 : DataW.trod enc Try.prog w base spare held m2 9 ((cs.drop 2).take (Try.prog.cellsOf 9)) = some y2 := h2
    replace h3 : DataW.trod enc Try.prog w base spare held m3 133 ((cs.drop 3).take (Try.prog.cellsOf 133)) = some y3 := h3
    rw [show Try.prog.cellsOf 135 = 4 from by kernel_rfl] at hl
    rw [show Try.prog.cellsOf 3 = 1 from by kernel_rfl] at h0 h1
    rw [show Try.prog.cellsOf 9 = 1 from by kernel_rfl] at h2
    rw [show Try.prog.cellsOf 133 = 1 from by kernel_rfl] at h3
    match cs, hl with
    | [c0, c1, c2, c3], _ =>
      simp only [List.drop_zero, List.drop_succ_cons, List.take_succ_cons, List.take_zero] at h0 h1 h2 h3
      obtain ⟨n0, e0, _, w0⟩ := DataW.trod_int Try.underlying3 h0
      obtain ⟨n1, e1, _, w1⟩ := DataW.trod_int Try.underlying3 h1
      obtain ⟨s2, e2, _, w2⟩ := DataW.trod_string Try.underlying9 h2
      obtain ⟨v3, ts, e3, A, c, cs', rfl, hl3, hc3, rd3, hx3⟩ := open_cells (R := TmIs AnyB w) (by decide) Try.underlying133 (by kernel_rfl : Try.prog.cellsOf 135 = 4) h3 (fun n cs' y' hn hy => ih n (by omega) hy)
      simp only [List.cons.injEq, and_true] at e0 e1 e2 e3
      subst e0 e1 e2 e3
      exact ⟨_, TmIs.mk' (i64in_of w0) (i64in_of w1) w2 hl3 hc3 ⟨cs', rd3, fun _ _ _ _ => trivial, hx3⟩⟩
end Go.Proofs.Ytadcebdhgocmhaa
