/- Several texts in one: Flat, Open, Strs. -/
import Derived.Test.YtdanlgmpgdipnaaDoorKd1
import Derived.ChangeArms
import Derived.DataReads
import Derived.WideShapes
import Derived.Deep.Slices
import Derived.Deep.QuietTactic
import Derived.BigQuiet
import Derived.SliceStrings
namespace Go.Proofs.YtdanlgmpgdipnaaDoor
open Go.RowKit
set_option linter.unusedVariables false


/-- cell j of element k -/
theorem flat_get {α : Type} (f : α → List Value) (sz : Nat) (hf : ∀ x, (f x).length = sz) (xs : List α) (k j : Nat) (hk : k < xs.length) (hj : j < sz) : (xs.flatMap f)[k * sz + j]? = (f xs[k])[j]? := by
  induction xs generalizing k with
  | nil => simp at hk
  | cons x r ih =>
    rw [List.flatMap_cons]
    cases k with
    | zero => rw [Nat.zero_mul, Nat.zero_add, List.getElem?_append_left (by rw [hf]; exact hj)]; rfl
    | succ k =>
      have e : (k + 1) * sz + j = sz + (k * sz + j) := by rw [Nat.succ_mul]; omega
      rw [e, List.getElem?_append_right (by rw [hf]; omega), hf, Nat.add_sub_cancel_left, ih k (by simpa using hk)]
      rfl
theorem flat_length {α : Type} (f : α → List Value) (sz : Nat) (hf : ∀ x, (f x).length = sz) (xs : List α) : (xs.flatMap f).length = xs.length * sz := by
  induction xs with
  | nil => simp
  | cons x r ih => rw [List.flatMap_cons, List.length_append, hf, ih, List.length_cons, Nat.succ_mul]; omega
/-- cells written one behind the other from i on -/
def sets (xs : List Value) (i : Nat) : List Value → List Value
  | [] => xs
  | v :: r => sets (xs.set i v) (i + 1) r
/-- a slice that reads as a list of things of sz cells each -/
def IsRows {α : Type} (sz : Nat) (f : α → List Value) (w : World) (v : Value) (xs : List α) : Prop := ∃ A c, v = .slice A xs.length c ∧ xs.length ≤ c ∧ c ≤ maxLen ∧ Rd w sz A xs.length (xs.flatMap f)
theorem IsRows.below {α : Type} {sz : Nat} {f : α → List Value} {w w' : World} {v : Value} {xs : List α} (h : IsRows sz f w v xs) (hb : Below w.heap.size w w') : IsRows sz f w' v xs := by
  obtain ⟨A, c, e, h1, h2, h3⟩ := h
  exact ⟨A, c, e, h1, h2, h3.below hb⟩
theorem rd_flat {α : Type} {w : World} {A : Option Addr} {sz : Nat} {f : α → List Value} (hf : ∀ x, (f x).length = sz) {xs : List α} (rd : Rd w sz A xs.length (xs.flatMap f)) {k : Nat} (hk : k < xs.length) :
    ∃ b off, A = some ⟨b, off, none⟩ ∧ ∀ j u, j < sz → (f xs[k])[j]? = some u → w.cell? ⟨b, off + (k * sz + j), none⟩ = some u := by
  obtain ⟨b, off, e, hc⟩ := rd.2 (by omega)
  exact ⟨b, off, e, fun j u hj hu => hc _ _ (by rw [flat_get f sz hf xs k j hk hj]; exact hu)⟩
theorem own_cap' {w0 w : World} {e : TypeId} {sz n c : Nat} {A : Option Addr} {xs : List Value} (h : Own w0 w e sz (.slice A n c) n xs) : c ≤ maxLen := by
  rcases h.1.2 with ⟨h1, _⟩ | ⟨g, cap, cur, h1, _, _, _, hm, _⟩
  · injection h1 with _ _ h2; subst h2; simp [maxLen]
  · injection h1 with _ _ h2; subst h2; exact hm
theorem IsRows.of_own {α : Type} {sz : Nat} {f : α → List Value} {w0 w : World} {e : TypeId} {v : Value} {xs : List α} (h : Own w0 w e sz v xs.length (xs.flatMap f)) : IsRows sz f w v xs := by
  obtain ⟨A, c, rfl, hc⟩ := h.slice
  exact ⟨A, c, rfl, hc, own_cap' h, h.rd⟩

theorem list_of {α : Type} (n : Nat) (P : Nat → α → Prop) (h : ∀ i, i < n → ∃ x, P i x) : ∃ xs : List α, xs.length = n ∧ ∀ i (hi : i < xs.length), P i xs[i] := by
  induction n with
  | zero => exact ⟨[], rfl, fun i hi => absurd hi (by simp)⟩
  | succ n ih =>
    obtain ⟨xs, hl, hx⟩ := ih (fun i hi => h i (by omega))
    obtain ⟨x, hx'⟩ := h n (by omega)
    refine ⟨xs ++ [x], by simp [hl], fun i hi => ?_⟩
    by_cases e : i < xs.length
    · rw [List.getElem_append_left e]; exact hx i e
    · have e2 : i = n := by simp at hi; omega
      subst e2
      rw [List.getElem_append_right (by omega)]
      simpa [hl] using hx'
/-- a slice that reads as a list of things; R says what the cells of one of them are -/
def IsRowsR {α : Type} (sz : Nat) (R : List Value → α → Prop) (w : World) (v : Value) (xs : List α) : Prop :=
  ∃ A c cs, v = .slice A xs.length c ∧ xs.length ≤ c ∧ c ≤ maxLen ∧ Rd w sz A xs.length cs ∧ ∀ k (h : k < xs.length), R ((cs.drop (k * sz)).take sz) xs[k]
theorem chunk_get {cs : List Value} {sz k r : Nat} (hr : r < sz) {l : List Value} (h : (cs.drop (k * sz)).take sz = l) : cs[k * sz + r]? = l[r]? := by
  subst h
  rw [List.getElem?_take, if_pos hr, List.getElem?_drop]
section
variable {H : Type} {enc : TypeId × Value → H} {P : Program} {w : World} {base : Nat} {spare : Nat → Bool} {held : Bool}
end
theorem cell_keep {W w1 : World} {p : Addr} {v : Value} (hb : Below W.heap.size W w1) (h : W.cell? p = some v) : w1.cell? p = some v := (hb.cell (cell_lt h)).trans h
theorem IsRowsR.rows {α : Type} {sz : Nat} {f : α → List Value} {G : α → Prop} {w : World} {v : Value} {xs : List α} (h : IsRowsR sz (fun cs x => cs = f x ∧ G x) w v xs) : IsRows sz f w v xs ∧ ∀ x ∈ xs, G x := by
  obtain ⟨A, c, cs, rfl, h1, h2, rd, hx⟩ := h
  refine ⟨⟨A, c, rfl, h1, h2, ?_⟩, fun x hxm => ?_⟩
  · have e : cs = xs.flatMap f := by
      have hl := rd.1
      clear rd h1 h2
      induction xs generalizing cs with
      | nil => simpa using hl
      | cons x r ih =>
        have h0 := (hx 0 (by simp)).1
        rw [Nat.zero_mul, List.drop_zero] at h0
        have e1 : cs = cs.take sz ++ cs.drop sz := (List.take_append_drop sz cs).symm
        rw [List.flatMap_cons, e1, h0]
        have hr : cs.drop sz = r.flatMap f := by
          apply ih
          · intro k hk
            have := hx (k + 1) (by simpa using hk)
            rw [List.drop_drop, show sz + k * sz = (k + 1) * sz from by rw [Nat.succ_mul]; omega]
            exact this
          · rw [List.length_drop, hl, List.length_cons, Nat.succ_mul]; omega
        rw [hr]
        rfl
    rw [← e]; exact rd
  · obtain ⟨k, hk, rfl⟩ := List.getElem_of_mem hxm
    exact (hx k hk).2

/-- v is a slice that reads as the texts ss -/
def IsStrs (w : World) (v : Value) (ss : List ByteArray) : Prop := ∃ A c, v = .slice A ss.length c ∧ ss.length ≤ c ∧ c ≤ maxLen ∧ Rd w 1 A ss.length (ss.map Value.string)
theorem IsStrs.below {w w' : World} {v : Value} {ss : List ByteArray} (h : IsStrs w v ss) (hb : Below w.heap.size w w') : IsStrs w' v ss := by
  obtain ⟨A, c, e, h1, h2, h3⟩ := h
  exact ⟨A, c, e, h1, h2, h3.below hb⟩
/-- its cell k -/
theorem rd_str {w : World} {A : Option Addr} {ss : List ByteArray} (rd : Rd w 1 A ss.length (ss.map Value.string)) {k : Nat} (hk : k < ss.length) : ∃ b off, A = some ⟨b, off, none⟩ ∧ w.cell? ⟨b, off + k, none⟩ = some (.string ss[k]) := by
  obtain ⟨b, off, e, hc⟩ := rd.2 (by omega)
  exact ⟨b, off, e, hc k _ (by simp [hk])⟩

theorem strT : ElemT Tryd.prog 22 9 1 16 := ElemT.mk' (z := .string ByteArray.empty) Tryd.underlying22 (by kernel_rfl) rfl (by decide)
set_option maxHeartbeats 400000 in
theorem laws_eqStringS (v u : Value) (ss tt : List ByteArray) (w : World) (h : IsStrs w v ss) (h' : IsStrs w u tt) :
    Calls Tryd.prog 19 #[v, u] w fun e w' => e = .returned (.bool (decide (ss = tt))) ∧ Qt w w' := by
  obtain ⟨A, c, rfl, h2, h3, rd⟩ := h
  obtain ⟨A', c', rfl, h2', h3', rd'⟩ := h'
  unfold maxLen at h3 h3'
  have RD := Lib.hid rd
  have RD' := Lib.hid rd'
  clear rd rd'
  by_cases g0 : ss.length = tt.length
  · have g1 : ((ss.length : Int) != (tt.length : Int)) = false := by simp [g0]
    have G := Lib.hid g0
    clear g0
    go_enter Tryd.func19, Tryd.ntmps19
    go_wp2_with fail
    go_loopw [5] (fun i wr => ∃ (k m : Nat), k ≤ ss.length ∧ i = .int .i64 k ∧ wr = w.drewN m ∧ Hid (ss.take k = tt.take k)) (fun i _ => ss.length - (intOf i).toNat)
    case atStart => exact ⟨0, 0, Nat.zero_le _, rfl, rfl, Lib.hid rfl⟩
    case round =>
      obtain ⟨k, m, hk, rfl, rfl, HT⟩ := hrel
      by_cases hlt : k < ss.length
      · have hlt' : k < tt.length := by rw [← G.out]; exact hlt
        obtain ⟨b, off, rfl, hcell⟩ := rd_str RD.out hlt
        obtain ⟨b', off', rfl, hcell'⟩ := rd_str RD'.out hlt'
        have h0k : (0 : Int) ≤ (k : Int) := by omega
        have h1k : (k : Int) < (ss.length : Int) := by omega
        have h2k : (k : Int) < (tt.length : Int) := by omega
        have q := str_eq ss[k] tt[k]
        by_cases e : ss[k] = tt[k]
        · have HE := Lib.hid e
          rw [decide_eq_true e] at q
          clear e
          go_wp2_with fail
          go_quiet (fail)
          go_wp2_with fail
          go_roundw
          case rel => exact ⟨k + 1, _, by omega, by go_num, rfl, Lib.hid (take_eq_succ HT.out hlt hlt' HE.out)⟩
          case measure => simp [intOf]; omega
        · have HE := Lib.hid e
          rw [decide_no e] at q
          clear e
          go_wp2_with fail
          go_quiet (fail)
          go_wp2_with fail
          go_ret
          exact ⟨ret_bool (decide_no (fun e => HE.out (by subst e; rfl))).symm, (Qt.of_drewN _ _).trans (Qt.of_drewN _ _)⟩
      · go_wp2_with fail
        go_ret
        have e : ss = tt := by
          have := HT.out
          rwa [List.take_of_length_le (by omega), List.take_of_length_le (by rw [← G.out]; omega)] at this
        exact ⟨ret_bool (decide_eq_true e).symm, ⟨_, rfl⟩⟩
  · have g1 : ((ss.length : Int) != (tt.length : Int)) = true := by simp; omega
    have G := Lib.hid g0
    clear g0
    go_enter Tryd.func19, Tryd.ntmps19
    go_wp2_with fail
    go_ret
    exact ⟨ret_bool (decide_no (fun e => G.out (by rw [e]))).symm, Qt.refl _⟩
end Go.Proofs.YtdanlgmpgdipnaaDoor
