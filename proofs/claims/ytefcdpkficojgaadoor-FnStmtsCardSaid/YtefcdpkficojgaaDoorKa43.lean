/- Several texts in one: NamesImpl. -/
import Derived.Test.YtefcdpkficojgaaDoorKa34
namespace Go.Proofs.YtefcdpkficojgaaDoor
open Go.RowKit
set_option linter.unusedVariables false


def nameG (kind : Int) (acc : List ByteArray) : St → List ByteArray
  | .mk k s _ _ _ => nameK kind k acc s
def namesF (kind : Int) (st : Nat × List ByteArray) (g : St) : (Nat × List ByteArray) × Bool := ((st.1 + 1, nameG kind st.2 g), decide (st.1 + 1 ≤ 60))
mutual
theorem names_visT (kind : Int) (st : Nat × List ByteArray) : (g : St) → st.1 + snodes g ≤ 60 → visT (namesF kind) st g = ((st.1 + snodes g, namesG kind st.2 g), true)
  | .mk k s t b e, h => by
    rw [snodes] at h
    rw [visT, namesF, decide_eq_true (by omega)]
    simp only [nameG]
    rw [names_visTs kind _ b (by show st.1 + 1 + snodess b ≤ 60; omega)]
    simp only
    rw [names_visTs kind _ e (by show st.1 + 1 + snodess b + snodess e ≤ 60; omega), snodes, namesG_mk]
    simp only
    congr 2; omega
theorem names_visTs (kind : Int) (st : Nat × List ByteArray) : (l : List St) → st.1 + snodess l ≤ 60 → visTs (namesF kind) st l = ((st.1 + snodess l, namesGs kind st.2 l), true)
  | [], _ => by rw [visTs, snodess, namesGs, Nat.add_zero]
  | g :: r, h => by
    rw [snodess] at h
    rw [visTs, names_visT kind st g (by omega)]
    simp only
    rw [names_visTs kind _ r (by show st.1 + snodes g + snodess r ≤ 60; omega), snodess, namesGs]
    simp only
    congr 2; omega
end
mutual
theorem names_overT (kind : Int) (st : Nat × List ByteArray) (h0 : st.1 ≤ 60) : (g : St) → 60 < st.1 + snodes g → (visT (namesF kind) st g).2 = false ∧ 60 < (visT (namesF kind) st g).1.1
  | .mk k s t b e, h => by
    rw [snodes] at h
    rw [visT, namesF]
    by_cases h1 : st.1 + 1 ≤ 60
    · rw [decide_eq_true h1]
      simp only [nameG]
      by_cases h2 : st.1 + 1 + snodess b ≤ 60
      · rw [names_visTs kind _ b h2]
        simp only
        exact names_overTs kind _ h2 e (by show 60 < st.1 + 1 + snodess b + snodess e; omega)
      · have := names_overTs kind (st.1 + 1, nameK kind k st.2 s) h1 b (by show 60 < st.1 + 1 + snodess b; omega)
        generalize visTs (namesF kind) (st.1 + 1, nameK kind k st.2 s) b = r at *
        obtain ⟨r1, r2⟩ := r
        simp only at this
        rw [this.1]
        exact ⟨rfl, this.2⟩
    · rw [decide_eq_false h1]
      exact ⟨rfl, by show 60 < st.1 + 1; omega⟩
theorem names_overTs (kind : Int) (st : Nat × List ByteArray) (h0 : st.1 ≤ 60) : (l : List St) → 60 < st.1 + snodess l → (visTs (namesF kind) st l).2 = false ∧ 60 < (visTs (namesF kind) st l).1.1
  | [], h => by rw [snodess] at h; omega
  | g :: r, h => by
    rw [snodess] at h
    rw [visTs]
    by_cases h2 : st.1 + snodes g ≤ 60
    · rw [names_visT kind st g h2]
      simp only
      exact names_overTs kind _ h2 r (by show 60 < st.1 + snodes g + snodess r; omega)
    · have := names_overT kind st h0 g (by omega)
      generalize visT (namesF kind) st g = q at *
      obtain ⟨r1, r2⟩ := q
      simp only at this
      rw [this.1]
      exact ⟨rfl, this.2⟩
end
theorem OwnStrs.ne {w0 w : World} {v : Value} {ss : List ByteArray} {b : Nat} (h : OwnStrs w0 w v ss) (hb : Sane 9 w b) : v.ownBlock ≠ some b := by
  intro e
  rcases h.1.2 with ⟨rfl, _⟩ | ⟨g, cap, cur, rfl, _, hg, _⟩
  · cases e
  · injection e with e
    subst e
    exact hb cur hg
theorem OwnStrs.setO {w0 w : World} {v : Value} {ss : List ByteArray} {b o : Nat} (h : OwnStrs w0 w v ss) (hb : Sane 9 w b) (hw : w0.heap.size ≤ b) (u : Value) : OwnStrs w0 (w.setCell ⟨b, o, none⟩ u) v ss :=
  ⟨ownsRow_setCell_other h.1 (a := ⟨b, o, none⟩) (h.ne hb) u, Below.setCell h.2 hw u⟩
/-- the closure that gathers names: the count lies in block gn, the kind in gk, the list's variable in go -/
def namesU (W0 : World) (gk go gn : Nat) (kind : Int) : Uses (Nat × List ByteArray) where
  k := 77
  caps := #[.pointer (some ⟨gn, 0, none⟩), .pointer (some ⟨gk, 0, none⟩), .pointer (some ⟨go, 0, none⟩)]
  f := namesF kind
  I := fun st w => w.heap[gn]? = some (.cells #[.int .i64 (st.1 : Int)] 3 (0, 0)) ∧ w.heap[gk]? = some (.cells #[.int .i64 kind] 3 (0, 0)) ∧ ∃ v, w.heap[go]? = some (.cells #[v] 44 (0, 0)) ∧ OwnStrs W0 w v st.2
  K := fun _ w i => i ≠ gn ∧ i ≠ go ∧ (i < W0.heap.size ∨ Sane 9 w i)
  Bd := fun st n => st.1 + n ≤ 10000000 ∧ st.2.length + n ≤ 10000000
theorem nameG_len (kind : Int) (acc : List ByteArray) (g : St) : (nameG kind acc g).length ≤ acc.length + 1 := by
  obtain ⟨k, s, _, _, _⟩ := g
  exact nameK_len kind k acc s
set_option maxHeartbeats 1600000 in
theorem namesU_step (W0 : World) (gk go gn : Nat) (kind : Int) (h1 : W0.heap.size ≤ gn) (h2 : W0.heap.size ≤ go) (n1 : gn ≠ gk) (n2 : gn ≠ go) (n3 : gk ≠ go) (n : Nat) (acc : List ByteArray) (m : Nat) (x : V8) (g : St) (w : World)
    (hbd : n + (m + 1) ≤ 10000000 ∧ acc.length + (m + 1) ≤ 10000000) (i1 : w.heap[gn]? = some (.cells #[.int .i64 (n : Int)] 3 (0, 0))) (i2 : w.heap[gk]? = some (.cells #[.int .i64 kind] 3 (0, 0))) (v : Value) (i3 : w.heap[go]? = some (.cells #[v] 44 (0, 0))) (i4 : OwnStrs W0 w v acc)
    (hs : g = .mk x.k x.s (.mk 0 0 ByteArray.empty []) [] [] ∨ ∃ t b e, g = .mk x.k x.s t b e) :
    Calls Tryd.prog 77 #[.agg #[.int .i64 x.k, .string x.s, .int .i64 x.tk, .int .i64 x.tn, .string x.ts, .slice x.tA x.tm x.tc, .slice x.bA x.bm x.bc, .slice x.eA x.em x.ec], .pointer (some ⟨gn, 0, none⟩), .pointer (some ⟨gk, 0, none⟩), .pointer (some ⟨go, 0, none⟩)] w fun e w' =>
      e = .returned (.bool (decide (n + 1 ≤ 60))) ∧ (w'.heap[gn]? = some (.cells #[.int .i64 ((n + 1 : Nat) : Int)] 3 (0, 0)) ∧ w'.heap[gk]? = some (.cells #[.int .i64 kind] 3 (0, 0)) ∧ ∃ v, w'.heap[go]? = some (.cells #[v] 44 (0, 0)) ∧ OwnStrs W0 w' v (nameG kind acc g)) ∧
        Keep (fun i => i ≠ gn ∧ i ≠ go ∧ Sane 9 w i) w w' := by
  have hG : nameG kind acc g = nameK kind x.k acc x.s := by rcases hs with rfl | ⟨t, b, e, rfl⟩ <;> rfl
  rw [hG]
  have hd : decide (((n : Int) + 1) ≤ 60) = decide (n + 1 ≤ 60) := by rw [Bool.eq_iff_iff, decide_eq_true_eq, decide_eq_true_eq]; omega
  have HD := Lib.hid hd
  have l1 := lt_of_block i1
  have l2 := lt_of_block i2
  have l3 := lt_of_block i3
  have c1 := cell_of_one i1
  have c2 := cell_of_one i2
  have c3 := cell_of_one i3
  have f1 := free_of_one i1
  have f3 := free_of_one i3
  have I1 := Lib.hid i1
  have I2 := Lib.hid i2
  have I3 := Lib.hid i3
  have I4 := Lib.hid i4
  have S1 : Hid (Sane 9 w gn) := Lib.hid (sane_of i1 (by decide))
  obtain ⟨xk, xs, tk, tn, ts, tA, tm, tc, bA, bm, bc, eA, em, ec⟩ := x
  simp only
  clear hs hG i1 i2 i3 i4 hd
  by_cases e : xk = kind
  case neg =>
    have e' : (xk == kind) = false := beq_eq_false_iff_ne.2 e
    have HK := Lib.hid (nameK_no e acc xs)
    clear e
    go_enter Tryd.func77, Tryd.ntmps77
    go_wp2_with fail
    go_ret
    refine ⟨ret_bool HD.out, ⟨?_, ?_, v, ?_, ?_⟩, ?_⟩
    · exact (heap_alloc_lt (by simpa using l1)).trans (one_setCell I1.out)
    · exact (heap_alloc_lt (by simpa using l2)).trans ((Below.heap_setCell _ ⟨gn, 0, none⟩ _ _ (fun e => n1 e.symm)).trans I2.out)
    · exact (heap_alloc_lt (by simpa using l3)).trans ((Below.heap_setCell _ ⟨gn, 0, none⟩ _ _ (fun e => n2 e.symm)).trans I3.out)
    · rw [HK.out]; exact (I4.out.setO S1.out h1 _).alloc _
    · exact ((Keep.refl _ _).setCell (p := ⟨gn, 0, none⟩) (fun h => h.1 rfl) _).alloc _
  have e' : (xk == kind) = true := by simp [e]
  have HK := Lib.hid (nameK_yes e acc xs)
  clear e
  have b1 : Hid (((w.setCell ⟨gn, 0, none⟩ (.int .i64 ((n : Int) + 1))).alloc (.cells #[.int .i64 xk, .string xs, .int .i64 tk, .int .i64 tn, .string ts, .slice tA tm tc, .slice bA bm bc, .slice eA em ec] 104)).heap[gn]? = some (.cells #[.int .i64 ((n : Int) + 1)] 3 (0, 0))) := Lib.hid ((heap_alloc_lt (by simpa using l1)).trans (one_setCell I1.out))
  have b2 : Hid (((w.setCell ⟨gn, 0, none⟩ (.int .i64 ((n : Int) + 1))).alloc (.cells #[.int .i64 xk, .string xs, .int .i64 tk, .int .i64 tn, .string ts, .slice tA tm tc, .slice bA bm bc, .slice eA em ec] 104)).heap[gk]? = some (.cells #[.int .i64 kind] 3 (0, 0))) := Lib.hid ((heap_alloc_lt (by simpa using l2)).trans ((Below.heap_setCell _ ⟨gn, 0, none⟩ _ _ (fun e => n1 e.symm)).trans I2.out))
  have b3 : Hid (((w.setCell ⟨gn, 0, none⟩ (.int .i64 ((n : Int) + 1))).alloc (.cells #[.int .i64 xk, .string xs, .int .i64 tk, .int .i64 tn, .string ts, .slice tA tm tc, .slice bA bm bc, .slice eA em ec] 104)).heap[go]? = some (.cells #[v] 44 (0, 0))) := Lib.hid ((heap_alloc_lt (by simpa using l3)).trans ((Below.heap_setCell _ ⟨gn, 0, none⟩ _ _ (fun e => n2 e.symm)).trans I3.out))
  have b4 : Hid (OwnStrs W0 ((w.setCell ⟨gn, 0, none⟩ (.int .i64 ((n : Int) + 1))).alloc (.cells #[.int .i64 xk, .string xs, .int .i64 tk, .int .i64 tn, .string ts, .slice tA tm tc, .slice bA bm bc, .slice eA em ec] 104)) v acc) := Lib.hid ((I4.out.setO S1.out h1 _).alloc _)
  have k0 : Hid (Keep (fun i => i ≠ gn ∧ i ≠ go ∧ Sane 9 w i) w ((w.setCell ⟨gn, 0, none⟩ (.int .i64 ((n : Int) + 1))).alloc (.cells #[.int .i64 xk, .string xs, .int .i64 tk, .int .i64 tn, .string ts, .slice tA tm tc, .slice bA bm bc, .slice eA em ec] 104))) := Lib.hid (((Keep.refl _ _).setCell (p := ⟨gn, 0, none⟩) (fun h => h.1 rfl) _).alloc _)
  have hal : acc.length ≤ 10000000 := by omega
  go_enter Tryd.func77, Tryd.ntmps77
  go_wp2_with fail
  refine (impl_addOnce W0 _ v acc xs b4.out hal).mono ?_
  rintro e w1 ⟨v1, rfl, own1, kp1⟩
  have a1 := (kp1.block gn (lt_of_block b1.out) (sane_of b1.out (by decide))).trans b1.out
  have a2 := (kp1.block gk (lt_of_block b2.out) (sane_of b2.out (by decide))).trans b2.out
  have a3 := (kp1.block go (lt_of_block b3.out) (sane_of b3.out (by decide))).trans b3.out
  have e1 := cell_of_one a1
  have e3 := cell_of_one a3
  have g3 := free_of_one a3
  have A1 := Lib.hid a1
  have A2 := Lib.hid a2
  have A3 := Lib.hid a3
  have O1 := Lib.hid own1
  have K1 : Hid (Keep (fun i => i ≠ gn ∧ i ≠ go ∧ Sane 9 w i) w w1) := Lib.hid (k0.out.trans kp1 (fun i hi hS cur e => hS.2.2 cur ((k0.out.block i hi hS).symm.trans e)))
  obtain ⟨A5, c5, rfl, _⟩ := own1.slice
  clear own1 kp1 a1 a2 a3 c1 c2 c3 f1 f3
  go_wp2_with fail
  go_ret
  refine ⟨ret_bool HD.out, ⟨?_, ?_, .slice A5 (addOnceP acc xs).length c5, ?_, ?_⟩, ?_⟩
  · exact (Below.heap_setCell _ ⟨go, 0, none⟩ _ _ n2).trans A1.out
  · exact (Below.heap_setCell _ ⟨go, 0, none⟩ _ _ n3).trans A2.out
  · exact one_setCell A3.out
  · rw [HK.out]; exact O1.out.setO (sane_of A3.out (by decide)) h2 _
  · exact K1.out.setCell (p := ⟨go, 0, none⟩) (fun h => h.2.1 rfl) _
theorem namesU_ok (W0 : World) (gk go gn : Nat) (kind : Int) (h1 : W0.heap.size ≤ gn) (h2 : W0.heap.size ≤ go) (n1 : gn ≠ gk) (n2 : gn ≠ go) (n3 : gk ≠ go) : (namesU W0 gk go gn kind).Ok where
  step := by
    rintro ⟨n, acc⟩ m x g w hbd ⟨i1, i2, v, i3, i4⟩ hs
    obtain ⟨t, body, els, hg, _⟩ := hs.inv
    refine (namesU_step W0 gk go gn kind h1 h2 n1 n2 n3 n acc m x g w hbd i1 i2 v i3 i4 (.inr ⟨t, body, els, hg⟩)).mono ?_
    rintro e w' ⟨he, hI, hk⟩
    have hI' := hI
    obtain ⟨_, _, v', _, o'⟩ := hI'
    have hk' : Keep (fun i => i ≠ gn ∧ i ≠ go ∧ (i < W0.heap.size ∨ Sane 9 w i)) w w' := ⟨hk.os, hk.tape, hk.output, hk.size, fun k hlt hS => by
      rcases hS.2.2 with h | h
      · exact (o'.2.block k h).trans (i4.2.block k h).symm
      · exact hk.block k hlt ⟨hS.1, hS.2.1, h⟩⟩
    refine ⟨he, hI, hk', fun i hi hK => ⟨hK.1, hK.2.1, ?_⟩, ?_⟩
    · rcases hK.2.2 with h | h
      · exact .inl h
      · exact .inr fun cur e => h cur ((hk'.block i hi hK).symm.trans e)
    have := nameG_len kind acc g
    exact ⟨by show n + 1 + m ≤ 10000000; have := hbd.1; simp only at this; omega, by show (nameG kind acc g).length + m ≤ 10000000; have := hbd.2; simp only at this; omega⟩
  enter := fun args w => by kernel_rfl
  new := by
    rintro ⟨n, acc⟩ w cs ⟨i1, i2, v, i3, i4⟩
    refine ⟨⟨(heap_alloc_lt (lt_of_block i1)).trans i1, (heap_alloc_lt (lt_of_block i2)).trans i2, v, (heap_alloc_lt (lt_of_block i3)).trans i3, i4.alloc _⟩, ⟨?_, ?_, .inr (sane_new (by decide))⟩, fun i hi hK => ⟨hK.1, hK.2.1, hK.2.2.elim .inl fun h => .inr fun cur e => h cur ((heap_alloc_lt hi).symm.trans e)⟩⟩
    · have := lt_of_block i1; omega
    · have := lt_of_block i3; omega
  less := fun st m n h k => ⟨by have := k.1; omega, by have := k.2; omega⟩
theorem namesU_f (W0 : World) (gk go gn : Nat) (kind : Int) : (namesU W0 gk go gn kind).f = namesF kind := rfl
set_option maxHeartbeats 1600000 in
theorem impl_NamesIn (l : List St) (A : Option Addr) (c : Nat) (kind : Int) (w : World) (row : StRow AnyB w A l) (hl : l.length ≤ c) (hc : c ≤ maxLen) (hb : snodess l ≤ 1048576) :
    Calls Tryd.prog 25 #[.slice A l.length c, .int .i64 kind] w fun e w' => ∃ v', e = .returned v' ∧ OwnStrs w w' v' (namesR kind l) := by
  have RW := Lib.hid row
  clear row
  go_enter Tryd.func25, Tryd.ntmps25
  go_wp2_with fail
  have bB : Below w.heap.size w (((w.alloc (.cells #[.int .i64 kind] 3)).alloc (.cells #[.slice none 0 0] 44)).alloc (.cells #[.int .i64 0] 3)) := (by repeat' (first | exact Below.refl _ _ | exact Nat.le_refl _ | (refine Below.alloc ?_ ?_ _) | (refine Below.setCell ?_ ?_ _) | (refine Below.drew ?_) | (refine below_drewN ?_ _) | assumption | (simp; done) | (simp; omega)))
  have i1 : (((w.alloc (.cells #[.int .i64 kind] 3)).alloc (.cells #[.slice none 0 0] 44)).alloc (.cells #[.int .i64 0] 3)).heap[w.heap.size + 1 + 1]? = some (.cells #[.int .i64 ((0 : Nat) : Int)] 3 (0, 0)) := by
    have := heap_alloc_new ((w.alloc (.cells #[.int .i64 kind] 3)).alloc (.cells #[.slice none 0 0] 44)) (.cells #[.int .i64 0] 3)
    simpa using this
  have i2 : (((w.alloc (.cells #[.int .i64 kind] 3)).alloc (.cells #[.slice none 0 0] 44)).alloc (.cells #[.int .i64 0] 3)).heap[w.heap.size]? = some (.cells #[.int .i64 kind] 3 (0, 0)) := by
    rw [heap_alloc_lt (by simp; omega), heap_alloc_lt (by simp)]
    exact heap_alloc_new _ _
  have i3 : (((w.alloc (.cells #[.int .i64 kind] 3)).alloc (.cells #[.slice none 0 0] 44)).alloc (.cells #[.int .i64 0] 3)).heap[w.heap.size + 1]? = some (.cells #[.slice none 0 0] 44 (0, 0)) := by
    rw [heap_alloc_lt (by simp)]
    have := heap_alloc_new (w.alloc (.cells #[.int .i64 kind] 3)) (.cells #[.slice none 0 0] 44)
    simpa using this
  have r1 : StRow (fun i => i ≠ w.heap.size + 1 + 1 ∧ i ≠ w.heap.size + 1 ∧ (i < w.heap.size ∨ Sane 9 (((w.alloc (.cells #[.int .i64 kind] 3)).alloc (.cells #[.slice none 0 0] 44)).alloc (.cells #[.int .i64 0] 3)) i)) (((w.alloc (.cells #[.int .i64 kind] 3)).alloc (.cells #[.slice none 0 0] 44)).alloc (.cells #[.int .i64 0] 3)) A l := RW.out.keep (fun p hp _ => bB.cell hp) (fun b hb _ => ⟨by omega, by omega, .inl hb⟩)
  refine (impl_visitStmts (namesU w w.heap.size (w.heap.size + 1) (w.heap.size + 1 + 1) kind) (namesU_ok _ _ _ _ _ (by omega) (by omega) (by omega) (by omega) (by omega)) l (0, []) 0 A c _ ⟨by show 0 + (0 + snodess l) ≤ 10000000; omega, by show 0 + (0 + snodess l) ≤ 10000000; omega⟩ ⟨i1, i2, _, i3, OwnStrs.nil bB⟩ r1 hl hc).mono ?_
  rintro e w1 ⟨rfl, ⟨j1, j2, v1, j3, j4⟩, k1, m1, b1⟩
  rw [namesU_f] at j1 j4 ⊢
  have c1 := cell_of_one j1
  have c3 := cell_of_one j3
  have O1 := Lib.hid j4
  by_cases h : snodess l ≤ 60
  · have HR := Lib.hid (namesR_yes (kind := kind) h)
    have hv := names_visTs kind (0, []) l (by show 0 + snodess l ≤ 60; omega)
    rw [hv] at c1 O1
    simp only at c1 O1
    have hd : ¬ ((60 : Int) < ((0 + snodess l : Nat) : Int)) := by omega
    obtain ⟨A2, c2, rfl, _⟩ := O1.out.slice
    clear j1 j2 j3 j4 k1 m1 b1 hv i1 i2 i3 r1 bB
    go_wp2_with fail
    go_ret
    exact ⟨_, rfl, by rw [HR.out]; exact O1.out⟩
  · have HR := Lib.hid (namesR_no (kind := kind) h)
    have hv := names_overTs kind (0, []) (by simp) l (by show 60 < 0 + snodess l; omega)
    have hB := Lib.hid (j4.2)
    have h60 := hv.2
    clear j1 j2 j3 j4 k1 m1 b1 hv i1 i2 i3 r1 bB O1
    generalize (visTs (namesF kind) (0, []) l).1.1 = nn at *
    have hd : (60 : Int) < (nn : Int) := by omega
    go_wp2_with fail
    go_ret
    exact ⟨_, rfl, by rw [HR.out]; exact OwnStrs.nil hB.out⟩
end Go.Proofs.YtefcdpkficojgaaDoor
