/- Lemmas for the row. -/
import Derived.Test.YtadcebdhgocmhaaKo30
import Derived.Test.YtadcebdhgocmhaaKo23
import Derived.OneCell
namespace Go.Proofs.Ytadcebdhgocmhaa
open Go.RowKit
set_option linter.unusedVariables false
theorem nodess_all (l : List Tm) (M : Nat) (h : ∀ t ∈ l, nodes t + 1 ≤ M) : nodess l + l.length ≤ l.length * M := by
  induction l with
  | nil => simp [nodess]
  | cons t r ih =>
    have h1 := h t (by simp)
    have h2 := ih fun x hx => h x (by simp [hx])
    rw [nodess, List.length_cons, Nat.succ_mul]; omega
theorem nodes_ok (room : Nat) : ∀ t : Tm, okT room t = true → nodes t + 1 ≤ 2 ^ (room + 1) := by
  induction room with
  | zero =>
    rintro ⟨k, n, s, kids⟩ h
    cases h1 : (k == 1) with
    | true =>
      obtain rfl : k = 1 := by simpa using h1
      rw [okT_num] at h
      simp only [Bool.and_eq_true, beq_iff_eq] at h
      have : kids = [] := List.eq_nil_of_length_eq_zero (by omega)
      subst this
      simp [nodes, nodess]
    | false =>
      cases h2 : (k == 2) with
      | true =>
        obtain rfl : k = 2 := by simpa using h2
        rw [okT_var] at h
        simp only [Bool.and_eq_true, beq_iff_eq] at h
        have : kids = [] := List.eq_nil_of_length_eq_zero (by omega)
        subst this
        simp [nodes, nodess]
      | false => rw [okT_zero h1 h2] at h; cases h
  | succ r ih =>
    rintro ⟨k, n, s, kids⟩ h
    have hp : 2 ≤ 2 ^ (r + 1) := by
      have := Nat.pow_le_pow_right (n := 2) (by decide) (show 1 ≤ r + 1 by omega)
      omega
    have hq : 2 ^ (r + 1 + 1) = 2 * 2 ^ (r + 1) := by rw [Nat.pow_succ, Nat.mul_comm]
    cases h1 : (k == 1) with
    | true =>
      obtain rfl : k = 1 := by simpa using h1
      rw [okT_num] at h
      simp only [Bool.and_eq_true, beq_iff_eq] at h
      have : kids = [] := List.eq_nil_of_length_eq_zero (by omega)
      subst this
      simp only [nodes, nodess]; omega
    | false =>
      cases h2 : (k == 2) with
      | true =>
        obtain rfl : k = 2 := by simpa using h2
        rw [okT_var] at h
        simp only [Bool.and_eq_true, beq_iff_eq] at h
        have : kids = [] := List.eq_nil_of_length_eq_zero (by omega)
        subst this
        simp only [nodes, nodess]; omega
      | false =>
        rw [okT_more h1 h2] at h
        simp only [Bool.and_eq_true, beq_iff_eq] at h
        have hl : kids.length ≤ 2 := by
          have := h.1.2
          unfold manyK at this
          split at this <;> omega
        have hs := nodess_all kids (2 ^ (r + 1)) fun t ht => ih t (List.all_eq_true.1 h.2 t ht)
        rw [nodes]
        have h3 : kids.length * 2 ^ (r + 1) ≤ 2 * 2 ^ (r + 1) := Nat.mul_le_mul_right _ hl
        rw [hq]
        generalize 2 ^ (r + 1) = M at *
        rcases (show kids.length = 0 ∨ kids.length = 1 ∨ kids.length = 2 by omega) with e | e | e
        all_goals
          rw [e] at hs; omega
theorem readsR_ok (t : Tm) : (readsR t).length ≤ 127 := by
  cases h : okT 6 t with
  | false => rw [readsR_no h]; simp
  | true =>
    have h1 := readsR_len t
    have h2 := nodes_ok 6 t h
    omega
theorem impl_ReadsOf_any (t : Tm) (k n : Int) (s : ByteArray) (A : Option Addr) (m c : Nat) (w : World) (ht : TmIs AnyB w [.int .i64 k, .int .i64 n, .string s, .slice A m c] t) :
    Calls Try.prog 73 #[.agg #[.int .i64 k, .int .i64 n, .string s, .slice A m c]] w fun e w' => ∃ v', e = .returned v' ∧ OwnStrs w w' v' (readsR t) := by
  cases h : okT 6 t with
  | true => exact impl_ReadsOf t k n s A m c w ht (by have := nodes_ok 6 t h; omega)
  | false =>
    have HT := Lib.hid ht
    clear ht
    rw [readsR_no h]
    go_enter Try.func73, Try.ntmps73
    go_wp2_with fail
    refine (impl_TermOk t k n s A m c _ (HT.out.belowA (by repeat' first|exact .refl _ _|exact Nat.le_refl _|refine .alloc ?_ ?_ _|refine .setCell ?_ ?_ _|refine .drew ?_|refine below_drewN ?_ _|assumption|(simp;done)|(simp;omega)))).mono ?_
    rintro e w1 ⟨rfl, b1⟩
    have B1 : Hid (Below w.heap.size w w1) := Lib.hid (Below.trans (by repeat' first|exact .refl _ _|exact Nat.le_refl _|refine .alloc ?_ ?_ _|refine .setCell ?_ ?_ _|refine .drew ?_|refine below_drewN ?_ _|assumption|(simp;done)|(simp;omega)) (b1.mono (by simp)))
    rw [h]
    clear b1
    go_wp2_with fail
    go_ret
    exact ⟨_, rfl, OwnStrs.nil B1.out⟩
def cutW (base : Nat) (w : World) : World := { w with heap := w.heap.extract 0 base }
theorem cutW_size {base : Nat} {w : World} (h : base ≤ w.heap.size) : (cutW base w).heap.size = base := by simp [cutW]; omega
theorem cutW_below {base : Nat} {w : World} (h : base ≤ w.heap.size) : Below (cutW base w).heap.size (cutW base w) w := by
  refine ⟨rfl, rfl, rfl, ?_, fun k hk => ?_⟩
  · rw [cutW_size h]; exact h
  · rw [cutW_size h] at hk
    simp [cutW, Array.getElem?_extract]; omega
def OwnB (base : Nat) (w : World) (v : Value) (ss : List ByteArray) : Prop := w.ownsRow base 9 1 v ss.length (ss.map Value.string) ∧ base ≤ w.heap.size
theorem OwnB.strs {base : Nat} {w : World} {v : Value} {ss : List ByteArray} (h : OwnB base w v ss) : OwnStrs (cutW base w) w v ss := ⟨by rw [cutW_size h.2]; exact h.1, cutW_below h.2⟩
theorem OwnB.of {base : Nat} {w w' : World} {v : Value} {ss : List ByteArray} (hb : base ≤ w.heap.size) (h : OwnStrs (cutW base w) w' v ss) : OwnB base w' v ss := by
  have h1 := h.1
  have h2 := h.2.size
  rw [cutW_size hb] at h1 h2
  exact ⟨h1, h2⟩
theorem OwnB.of_strs {w0 w : World} {v : Value} {ss : List ByteArray} (h : OwnStrs w0 w v ss) : OwnB w0.heap.size w v ss := ⟨h.1, h.2.size⟩
theorem OwnB.keep {base : Nat} {w w' : World} {v : Value} {ss : List ByteArray} {S : Nat → Prop} (h : OwnB base w v ss) (hk : Keep S w w') (hv : ∀ b, v.ownBlock = some b → S b) : OwnB base w' v ss := by
  refine ⟨⟨h.1.1, ?_⟩, Nat.le_trans h.2 hk.size⟩
  rcases h.1.2 with h' | ⟨g, cap, cur, rfl, hg, hh, r⟩
  · exact .inl h'
  · exact .inr ⟨g, cap, cur, rfl, hg, (hk.block g (lt_of_block hh) (hv g rfl)).trans hh, r⟩
theorem OwnB.isStrs {base : Nat} {w : World} {v : Value} {ss : List ByteArray} (h : OwnB base w v ss) : IsStrs w v ss := h.strs.isStrs
theorem OwnB.ne {base : Nat} {w : World} {v : Value} {ss : List ByteArray} {b : Nat} (h : OwnB base w v ss) (hb : Sane 9 w b) : v.ownBlock ≠ some b := Own.neT h.strs hb
theorem OwnB.set {base : Nat} {w : World} {v : Value} {ss : List ByteArray} {b o : Nat} (h : OwnB base w v ss) (hb : Sane 9 w b) (u : Value) : OwnB base (w.setCell ⟨b, o, none⟩ u) v ss :=
  ⟨ownsRow_setCell_other h.1 (a := ⟨b, o, none⟩) (h.ne hb) u, by simpa using h.2⟩
theorem OwnB.alloc {base : Nat} {w : World} {v : Value} {ss : List ByteArray} (h : OwnB base w v ss) (o : Obj) : OwnB base (w.alloc o) v ss := ⟨h.1.alloc o, by have := h.2; simp; omega⟩
theorem OwnB.lt {base : Nat} {w : World} {v : Value} {ss : List ByteArray} (h : OwnB base w v ss) : ∀ b, v.ownBlock = some b → base ≤ b ∧ b < w.heap.size := fun b hb => h.1.lt b hb
structure OutAt (base go : Nat) (w : World) (v : Value) (acc : List ByteArray) : Prop where
  at' : w.heap[go]? = some (.cells #[v] 24 (0, 0))
  own : OwnB base w v acc
theorem OutAt.sane {base go : Nat} {w : World} {v : Value} {acc : List ByteArray} (h : OutAt base go w v acc) : Sane 9 w go := sane_of h.at' (by decide)
theorem OutAt.alloc {base go : Nat} {w : World} {v : Value} {acc : List ByteArray} (h : OutAt base go w v acc) (o : Obj) : OutAt base go (w.alloc o) v acc := ⟨(heap_alloc_lt (lt_of_block h.at')).trans h.at', h.own.alloc o⟩
theorem OutAt.keep {base go : Nat} {w w' : World} {v : Value} {acc : List ByteArray} (h : OutAt base go w v acc) (hb : Below w.heap.size w w') : OutAt base go w' v acc :=
  ⟨(hb.block go (lt_of_block h.at')).trans h.at', h.own.keep (S := fun _ => True) (Keep.of_below hb) (fun _ _ => trivial)⟩
structure GrewAt (go : Nat) (v v' : Value) (w w' : World) : Prop where
  keep : Keep (fun i => i ≠ go ∧ v.ownBlock ≠ some i) w w'
  lies : v'.ownBlock = v.ownBlock ∨ ∃ g, v'.ownBlock = some g ∧ w.heap.size ≤ g
theorem GrewAt.refl (go : Nat) (v : Value) (w : World) : GrewAt go v v w w := ⟨Keep.refl _ _, .inl rfl⟩
theorem GrewAt.of_below {go : Nat} {v : Value} {w w' : World} (h : Below w.heap.size w w') : GrewAt go v v w w' := ⟨Keep.of_below h, .inl rfl⟩
theorem GrewAt.trans {go : Nat} {u v x : Value} {a b c : World} (h : GrewAt go u v a b) (k : GrewAt go v x b c) : GrewAt go u x a c := by
  refine ⟨h.keep.trans k.keep (fun i hi hu => ⟨hu.1, fun e => ?_⟩), ?_⟩
  · rcases h.lies with h1 | ⟨g, h1, h2⟩
    · exact hu.2 (h1.symm.trans e)
    · rw [h1] at e; injection e with e; omega
  · rcases k.lies with k1 | ⟨g, k1, k2⟩
    · rw [k1]; exact h.lies
    · exact .inr ⟨g, k1, Nat.le_trans h.keep.size k2⟩
theorem impl_look (base go : Nat) (w : World) (lv v : Value) (known acc : List ByteArray) (x : ByteArray) (hlv : IsStrs w lv known) (ho : OutAt base go w v acc) (hb : acc.length ≤ 10000000) :
    Calls Try.prog 71 #[lv, .string x, .pointer (some ⟨go, 0, none⟩)] w fun e w' => e = .returned (.tuple #[]) ∧ ∃ v', OutAt base go w' v' (addUnk known acc x) ∧ GrewAt go v v' w w' := by
  have LV := Lib.hid hlv
  have HO := Lib.hid ho
  have c1 := cell_of_one ho.at'
  have f1 := free_of_one ho.at'
  obtain ⟨A, c, rfl, hl⟩ := ho.own.strs.slice
  clear hlv ho
  cases h : hasS known x with
  | true =>
    have HA := Lib.hid (addUnk_known (acc := acc) h)
    go_enter Try.func71, Try.ntmps71
    go_wp2_with fail
    refine (slices_Contains _ known x _ LV.out).mono ?_
    rintro e w1 ⟨rfl, rfl⟩
    rw [h]
    go_wp2_with fail
    refine bodyPost_end (results_none rfl _ _ _) rfl ?_
    exact ⟨rfl, _, by rw [HA.out]; exact HO.out, GrewAt.refl _ _ _⟩
  | false =>
    have HA := Lib.hid (addUnk_once (acc := acc) h)
    go_enter Try.func71, Try.ntmps71
    go_wp2_with fail
    refine (slices_Contains _ known x _ LV.out).mono ?_
    rintro e w1 ⟨rfl, rfl⟩
    rw [h]
    go_wp2_with fail
    refine (impl_addOnceG (cutW base w) _ _ acc x HO.out.own.strs hb).mono ?_
    rintro e w1 ⟨v1, rfl, own1, gr1⟩
    have B1 := Lib.hid (OwnB.of HO.out.own.2 own1)
    have G1 := Lib.hid gr1
    have a1 : w1.heap[go]? = some (.cells #[.slice A acc.length c] 24 (0, 0)) := (gr1.keep.block go (lt_of_block HO.out.at') (HO.out.own.ne HO.out.sane)).trans HO.out.at'
    have A1 := Lib.hid a1
    have c2 := cell_of_one a1
    have f2 := free_of_one a1
    obtain ⟨A2, c3, rfl, _⟩ := own1.slice
    clear own1 gr1 a1 c1 f1
    go_wp2_with fail
    refine bodyPost_end (results_none rfl _ _ _) rfl ?_
    refine ⟨rfl, _, ⟨one_setCell A1.out, by rw [HA.out]; exact B1.out.set (sane_of A1.out (by decide)) _⟩, ?_, G1.out.lies⟩
    exact (G1.out.keep.mono fun i _ hi => hi.2).setCell (p := ⟨go, 0, none⟩) (fun h => h.1 rfl) _
end Go.Proofs.Ytadcebdhgocmhaa
