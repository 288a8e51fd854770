/- Lemmas for the row. -/
import Derived.Test.YtnmblfonmfjoeaaGreatDoorKc9
import Derived.StillTail
namespace Go.Proofs.YtnmblfonmfjoeaaGreatDoor
open Go.RowKit
set_option maxRecDepth 100000
set_option linter.unusedVariables false
theorem snodess_takeE (l : List St) (j : Nat) (h : j < l.length) : snodess (l.take j) + snodes l[j] ≤ snodess l := by
 induction l generalizing j with
 | nil => simp at h
 | cons a r ih =>
  cases j with
  | zero => simp [snodess]
  | succ j =>
   have := ih j (by simpa using h)
   simp only [List.take_succ_cons, snodess, List.getElem_cons_succ]
   omega
theorem emSs_here (e : Env) (n : Nat) (l : List St) (j : Nat) (h : j < l.length) : (emSs e n (l.take j)).length + 2 * snodes l[j] ≤ 2 * snodess l := by
 have h1 := emSs_len e n (l.take j)
 have h2 := snodess_takeE l j h
 omega
theorem grwi_app {base kb A7n c7 n o : Nat} {Z H : Nat → Prop} {w0 w1 w2 : World} {cs : List (List Value)} {G : Nat → Nat → Prop} {A A7 : Option Addr} {c : Nat} {cur : List Ic} {x : List Value} {i : Ic} (hkb : kb < base) (h : GrwAt IcP 45 7 base Z w0 (.slice A n c) cur cs G) (hb : Below w0.heap.size w0 w1) (hi : IcP w1 H x i) (hH : ∀ b, H b → w0.heap.size ≤ b ∧ b < w1.heap.size) (hZ : ∀ b, Z b → b < w0.heap.size)
  (own7 : Own (cutX base w1) w2 45 7 (.slice A7 A7n c7) (cur.length + 1) (cs.flatten ++ x)) (gr : Grew (.slice A n c) (.slice A7 A7n c7) w1 w2) (u : Value) :
  GrwI base Z (w2.setCell ⟨kb, o, none⟩ u) (.slice A7 A7n c7) (cur ++ [i]) ∧ Keep (Fz base Z kb) w0 (w2.setCell ⟨kb, o, none⟩ u) ∧ ∀ b, Z b ∨ b < base → w2.heap[b]? = w0.heap[b]? := by
 have hg : GrwI base Z w2 (.slice A7 A7n c7) (cur ++ [i]) := grwx_app (S := fun _ => True) IcP.keepP h (Keep.of_below hb) (fun _ _ _ _ => trivial) (IcP.len hi) hi (fun b q => ⟨(hH b q).1, (hH b q).2, fun z => by have := hZ b z; have := (hH b q).1; omega⟩) (fun b q z => by have := hZ b z; have := hb.size; omega) own7 gr
 have hne : ∀ b, Z b ∨ b < base → (Value.slice A n c).ownBlock ≠ some b := by
  intro b q e
  rcases q with q | q
  ·exact h.clear b e q
  ·have := (h.ow.lt b e).1; omega
 have hlt : ∀ b, Z b ∨ b < base → b < w0.heap.size := fun b q => by
  rcases q with q | q
  ·exact hZ b q
  ·have := h.ow.2; omega
 refine ⟨hg.keep IcP.keepP (S := fun b => b ≠ kb) (Keep.setCell (Keep.refl _ _) (p := ⟨kb, o, none⟩) (by simp) _) (fun b q _ _ => by show b ≠ kb; omega), ?_, fun b q => ?_⟩
 ·refine Keep.setCell ((Keep.of_below (S := Fz base Z kb) hb).trans gr.keep (fun b _ q e => ?_)) (p := ⟨kb, o, none⟩) (fun q => q.1 rfl) _
  exact hne b (q.2.elim .inr .inl) e
 ·exact (gr.keep.block b (Nat.lt_of_lt_of_le (hlt b q) hb.size) (hne b q)).trans (hb.block b (hlt b q))
theorem grwi_to {base n c k : Nat} {Z : Nat → Prop} {w : World} {A : Option Addr} {cur : List Ic} (h : GrwI base Z w (.slice A n c) cur) (hk : k < cur.length) :
  n = cur.length ∧ ∃ ob, A = some ⟨ob, 0, none⟩ ∧ ob < w.heap.size ∧ base ≤ ob ∧ ¬ Z ob ∧ (∀ o, w.frozen? ⟨ob, o, none⟩ = false) ∧ (∃ old, w.cell? ⟨ob, k * 7 + 6, none⟩ = some old) ∧
   ∀ z, i64in z → GrwI base Z (w.setCell ⟨ob, k * 7 + 6, none⟩ (.int .i64 z)) (.slice A n c) (cur.set k ⟨cur[k].op, cur[k].arg, cur[k].term, z⟩) := by
 obtain ⟨cs, G, h⟩ := h
 obtain ⟨A', c', e, h1, h2⟩ := h.slice
 injection e with e1 e2 e3
 subst e1 e2 e3
 refine ⟨rfl, ?_⟩
 have hl := h.len
 have hk' : k < cs.length := by omega
 have hlen := h.size _ (List.getElem_mem hk')
 rcases h.ow.1.2 with ⟨h3, _⟩ | ⟨ob, cap, cc, h3, hb, hg, _⟩
 ·injection h3 with _ h3; omega
 ·injection h3 with e1 e3
  subst e1
  refine ⟨ob, rfl, lt_of_block hg, hb, h.clear ob rfl, fun o => h.free o, ⟨_, h.cell hk' (by decide) (by omega)⟩, fun z hz => ?_⟩
  exact h.set IcP.keepP hk hk' (by decide) (fun w' hp => hp.to z hz)
theorem set_mid {a : List Ic} {x y : Ic} {r : List Ic} : (a ++ x :: r).set a.length y = a ++ y :: r := by
 rw [List.set_append_right _ _ (Nat.le_refl _), Nat.sub_self]; rfl
theorem get_mid {a : List Ic} {x : Ic} {r : List Ic} (h : a.length < (a ++ x :: r).length) : (a ++ x :: r)[a.length] = x := by
 rw [List.getElem_append_right (Nat.le_refl _)]; simp
theorem box5 {w : World} {g : Nat} {a b c x y : Value} {T : TypeId} (h : w.heap[g]? = some (.cells #[a, b, c, x, y] T (0, 0))) : w.cell? ⟨g, 0, none⟩ = some a ∧ w.cell? ⟨g, 1, none⟩ = some b ∧ w.cell? ⟨g, 2, none⟩ = some c ∧ w.cell? ⟨g, 3, none⟩ = some x ∧ w.cell? ⟨g, 4, none⟩ = some y ∧ w.frozen? ⟨g, 3, none⟩ = false ∧ w.frozen? ⟨g, 4, none⟩ = false :=
 ⟨by rw [Lib.cell_of_heap h]; rfl, by rw [Lib.cell_of_heap h]; rfl, by rw [Lib.cell_of_heap h]; rfl, by rw [Lib.cell_of_heap h]; rfl, by rw [Lib.cell_of_heap h]; rfl, Lib.frozen_of_heap h 3, Lib.frozen_of_heap h 4⟩
theorem s5_4 {w : World} {g : Nat} {a b c x y : Value} {T : TypeId} (h : w.heap[g]? = some (.cells #[a, b, c, x, y] T (0, 0))) (u : Value) : (w.setCell ⟨g, 4, none⟩ u).heap[g]? = some (.cells #[a, b, c, x, u] T (0, 0)) := by simp [World.setCell, Array.getElem?_modify, h]
theorem cells8 {w : World} {g : Nat} {a0 a1 a2 a3 a4 a5 a6 a7 : Value} {T : TypeId} (h : w.heap[g]? = some (.cells #[a0, a1, a2, a3, a4, a5, a6, a7] T (0, 0))) : w.cell? ⟨g, 0, none⟩ = some a0 ∧ w.cell? ⟨g, 1, none⟩ = some a1 ∧ w.cell? ⟨g, 2, none⟩ = some a2 ∧ w.cell? ⟨g, 3, none⟩ = some a3 ∧ w.cell? ⟨g, 4, none⟩ = some a4 ∧ w.cell? ⟨g, 5, none⟩ = some a5 ∧ w.cell? ⟨g, 6, none⟩ = some a6 ∧ w.cell? ⟨g, 7, none⟩ = some a7 := by
 refine ⟨?_, ?_, ?_, ?_, ?_, ?_, ?_, ?_⟩ <;> (rw [Lib.cell_of_heap h]; rfl)
theorem while_fin {e : Env} {n0 n1 n3 : Nat} {s : ByteArray} {t : Tm} {b el : List St} {cu0 cu1 cu2 cu3 cu4 : List Ic} (h0 : cu0.length = n0) (h1 : cu0 ++ [⟨2, 0, t, 0⟩] = cu1) (l1 : cu1.length = n1) (h2 : cu2 = cu1 ++ emSs e n1 b) (h3 : cu2 ++ [⟨3, 0, zeroTm, (n0 : Int)⟩] = cu3) (l3 : cu3.length = n3) (hlt : n0 < cu3.length) (h4 : cu3.set n0 ⟨cu3[n0].op, cu3[n0].arg, cu3[n0].term, (n3 : Int)⟩ = cu4) : cu4 = cu0 ++ emT e n0 (.mk 3 s t b el) := by
 have e1 : n1 = n0 + 1 := by rw [← l1, ← h1, ← h0]; simp
 have e3 : cu3 = cu0 ++ ⟨2, 0, t, 0⟩ :: (emSs e (n0 + 1) b ++ [⟨3, 0, zeroTm, (n0 : Int)⟩]) := by rw [← h3, h2, ← h1, e1]; simp
 have e4 : n3 = n0 + 1 + (emSs e (n0 + 1) b).length + 1 := by rw [← l3, e3, ← h0]; simp; omega
 subst h0
 rw [← h4, emT_while]
 have hg : cu3[cu0.length] = ⟨2, 0, t, 0⟩ := by subst e3; exact get_mid hlt
 rw [hg, e3, set_mid, e4]
theorem if0_fin {e : Env} {n0 n1 n2 : Nat} {s : ByteArray} {t : Tm} {b el : List St} {cu0 cu1 cu2 cu3 : List Ic} (he : el.length = 0) (h0 : cu0.length = n0) (h1 : cu0 ++ [⟨2, 0, t, 0⟩] = cu1) (l1 : cu1.length = n1) (h2 : cu2 = cu1 ++ emSs e n1 b) (l2 : cu2.length = n2) (hlt : n0 < cu2.length) (h3 : cu2.set n0 ⟨cu2[n0].op, cu2[n0].arg, cu2[n0].term, (n2 : Int)⟩ = cu3) : cu3 = cu0 ++ emT e n0 (.mk 2 s t b el) := by
 have e1 : n1 = n0 + 1 := by rw [← l1, ← h1, ← h0]; simp
 have e3 : cu2 = cu0 ++ ⟨2, 0, t, 0⟩ :: emSs e (n0 + 1) b := by rw [h2, ← h1, e1]; simp
 have e4 : n2 = n0 + 1 + (emSs e (n0 + 1) b).length := by rw [← l2, e3, ← h0]; simp; omega
 subst h0
 rw [← h3, emT_if0 _ _ _ _ _ _ he]
 have hg : cu2[cu0.length] = ⟨2, 0, t, 0⟩ := by subst e3; exact get_mid hlt
 rw [hg, e3, set_mid, e4]
theorem if1_fin {e : Env} {n0 n1 n2 n3 n5 : Nat} {s : ByteArray} {t : Tm} {b el : List St} {cu0 cu1 cu2 cu3 cu4 cu5 cu6 : List Ic} (he : ¬ el.length = 0) (h0 : cu0.length = n0) (h1 : cu0 ++ [⟨2, 0, t, 0⟩] = cu1) (l1 : cu1.length = n1) (h2 : cu2 = cu1 ++ emSs e n1 b) (l2 : cu2.length = n2) (h3 : cu2 ++ [⟨3, 0, zeroTm, 0⟩] = cu3) (l3 : cu3.length = n3) (hlt : n0 < cu3.length) (h4 : cu3.set n0 ⟨cu3[n0].op, cu3[n0].arg, cu3[n0].term, (n3 : Int)⟩ = cu4)
  (h5 : cu5 = cu4 ++ emSs e n3 el) (l5 : cu5.length = n5) (hlt5 : n2 < cu5.length) (h6 : cu5.set n2 ⟨cu5[n2].op, cu5[n2].arg, cu5[n2].term, (n5 : Int)⟩ = cu6) : cu6 = cu0 ++ emT e n0 (.mk 2 s t b el) := by
 have e1 : n1 = n0 + 1 := by rw [← l1, ← h1, ← h0]; simp
 have e2 : cu2 = cu0 ++ ⟨2, 0, t, 0⟩ :: emSs e (n0 + 1) b := by rw [h2, ← h1, e1]; simp
 have e2l : n2 = n0 + 1 + (emSs e (n0 + 1) b).length := by rw [← l2, e2, ← h0]; simp; omega
 have e3 : cu3 = cu0 ++ ⟨2, 0, t, 0⟩ :: (emSs e (n0 + 1) b ++ [⟨3, 0, zeroTm, 0⟩]) := by rw [← h3, e2]; simp
 have e3l : n3 = n0 + 1 + (emSs e (n0 + 1) b).length + 1 := by rw [← l3, e3, ← h0]; simp; omega
 subst h0
 have hg : cu3[cu0.length] = ⟨2, 0, t, 0⟩ := by subst e3; exact get_mid hlt
 have e4 : cu4 = cu0 ++ ⟨2, 0, t, (n3 : Int)⟩ :: (emSs e (cu0.length + 1) b ++ [⟨3, 0, zeroTm, 0⟩]) := by rw [← h4, hg, e3, set_mid]
 have e5 : cu5 = (cu0 ++ ⟨2, 0, t, (n3 : Int)⟩ :: emSs e (cu0.length + 1) b) ++ ⟨3, 0, zeroTm, 0⟩ :: emSs e n3 el := by rw [h5, e4]; simp
 have e5l : (cu0 ++ (⟨2, 0, t, (n3 : Int)⟩ : Ic) :: emSs e (cu0.length + 1) b).length = n2 := by rw [e2l]; simp; omega
 have e5n : n5 = n3 + (emSs e n3 el).length := by rw [← l5, e5, e3l]; simp; omega
 have hg5 : cu5[n2] = ⟨3, 0, zeroTm, 0⟩ := by
  have h7 : ∀ (a : List Ic) (x : Ic) (r : List Ic) (n : Nat), a.length = n → (h : n < (a ++ x :: r).length) → (a ++ x :: r)[n] = x := fun a x r n e h => by subst e; exact get_mid h
  subst e5
  exact h7 _ _ _ _ e5l hlt5
 rw [← h6, hg5, e5, ← e5l, set_mid, emT_if1 _ _ _ _ _ _ he, e5n, e3l]
 simp
abbrev SpI (kb sb : Nat) (g0 g1 g2 s1 s2 s3 s4 s5 : Value) (w : World) : Prop := w.cell? ⟨kb, 0, none⟩ = some g0 ∧ w.cell? ⟨kb, 1, none⟩ = some g1 ∧ w.cell? ⟨kb, 2, none⟩ = some g2 ∧ w.frozen? ⟨kb, 4, none⟩ = false ∧ w.cell? ⟨sb, 1, none⟩ = some s1 ∧ w.cell? ⟨sb, 2, none⟩ = some s2 ∧ w.cell? ⟨sb, 3, none⟩ = some s3 ∧ w.cell? ⟨sb, 4, none⟩ = some s4 ∧ w.cell? ⟨sb, 5, none⟩ = some s5 ∧ kb < w.heap.size ∧ sb < w.heap.size
theorem SpI.alloc {w : World} {kb sb : Nat} {g0 g1 g2 s1 s2 s3 s4 s5 : Value} (h : SpI kb sb g0 g1 g2 s1 s2 s3 s4 s5 w) (o : Obj) : SpI kb sb g0 g1 g2 s1 s2 s3 s4 s5 (w.alloc o) := by
 obtain ⟨h0, h1, h2, hf, h3, h4, h5, h6, h7, hk, hs⟩ := h
 have hb : Below w.heap.size w (w.alloc o) := Below.alloc (Below.refl _ _) (Nat.le_refl _) _
 exact ⟨(hb.cell hk).trans h0, (hb.cell hk).trans h1, (hb.cell hk).trans h2, (hb.frozen hk).trans hf, (hb.cell hs).trans h3, (hb.cell hs).trans h4, (hb.cell hs).trans h5, (hb.cell hs).trans h6, (hb.cell hs).trans h7, by simp; omega, by simp; omega⟩
theorem SpI.drew {w : World} {kb sb : Nat} {g0 g1 g2 s1 s2 s3 s4 s5 : Value} (h : SpI kb sb g0 g1 g2 s1 s2 s3 s4 s5 w) : SpI kb sb g0 g1 g2 s1 s2 s3 s4 s5 w.drew := h
theorem layS {α : Type} (l : List α) (i : Nat) (a : α) : l.toArray.setIfInBounds i a = (l.set i a).toArray := List.setIfInBounds_toArray l i a
theorem layZ {α : Type} (x y : α) (l : List α) : (x :: l).set 0 y = y :: l := rfl
theorem layC {α : Type} (x y : α) (l : List α) (n : Nat) : (x :: l).set (n + 1) y = x :: l.set n y := rfl
section
variable {P : Program} {ops : Array Oper} {Q : Exit → Act → World → Prop} {md : Region.Mode} {S : World → Prop} {n : Nat}
def wpSk (P : Program) (md : Region.Mode) (ops : Array Oper) (Q : Exit → Act → World → Prop) (S : World → Prop) (n : Nat) : Nat → Array Bool → Act → World → Prop
 | 0, listed, a, w => Region.ready md ops listed = [] ∧ Q .normal a w
 | f + 1, listed, a, w => (Region.ready md ops listed = [] → Q .normal a w) ∧ ∀ i ∈ Region.ready md ops listed, wpOp P ops Q i (fun a' w' => (i < n → S w') ∧ wpSk P md ops Q S n f (listed.setIfInBounds i true) a' w') a w
theorem wpAny_of_sk : ∀ (f : Nat) (listed : Array Bool) (a : Act) (w : World), wpSk P md ops Q S n f listed a w → wpAny P md ops Q f listed a w
 | 0, _, _, _, h => h
 | f + 1, _, _, _, h => ⟨h.1, fun i hi => wpOp_mono (fun a' w' h' => wpAny_of_sk f _ a' w' h'.2) (h.2 i hi)⟩
def headB (md : Region.Mode) (ops : Array Oper) (n : Nat) (listed : Array Bool) : Bool :=
 decide (listed.size = ops.size) && ((List.range ops.size).all fun j => !listed.getD j false || (match ops[j]? with | some oj => oj.after.all fun e => !Region.binds md e || listed.getD e.on false | none => true)) && ((List.range ops.size).all fun t => decide (t < n) || !listed.getD t true)
theorem headB_inv {listed : Array Bool} (h : headB md ops n listed = true) : HeadInv md ops n listed := by
 unfold headB at h
 simp only [Bool.and_eq_true, decide_eq_true_eq, List.all_eq_true, List.mem_range, Bool.or_eq_true, Bool.not_eq_true'] at h
 obtain ⟨⟨h1, h2⟩, h3⟩ := h
 refine ⟨h1, fun j oj hj hl e he hb => ?_, fun t ht ht' => ?_⟩
 ·have hjs : j < ops.size := (Array.getElem?_eq_some_iff.1 hj).1
  rcases h2 j hjs with h | h
  ·rw [h] at hl; cases hl
  ·rw [hj] at h
   have := Array.all_eq_true_iff_forall_mem.1 h e he
   rw [hb] at this
   simpa using this
 ·rcases h3 t ht' with h | h
  ·omega
  ·exact h
theorem wpSk_first {i : Nat} {oi : Oper} {v : Value} (hi : ops[i]? = some oi) (hsel : ∀ (j : Nat) (o : Oper) cs b, ops[j]? = some o → o.op ≠ .select cs b)
  (hQ : ∀ c a w, Q (.panic c) (a.put oi.dst v) w → Q (.panic c) a w) (hs : Region.sinkB md ops n = true) (hc : Region.chainB md ops n = true) (hn : n < ops.size) (hin : i < n) :
  ∀ (f : Nat) (listed : Array Bool) (a : Act) (w : World), HeadInv md ops n listed →
   (∀ j oj, ops[j]? = some oj → j ≠ i → listed.getD j true = false → (∀ e ∈ oj.after, Region.binds md e = true → e.on ≠ i) → oi.apart ops oj = true) →
   i ∈ Region.ready md ops listed → YieldsIf P ops S oi v a → S w →
   wpSk P md ops Q S n f (listed.setIfInBounds i true) (a.put oi.dst v) w → wpSk P md ops Q S n (f + 1) listed a w := by
 intro f
 induction f with
 | zero =>
  intro listed a w inv hfree hr hy hS H
  refine ⟨fun h0 => (by rw [h0] at hr; cases hr), fun j hj => ?_⟩
  by_cases hji : j = i
  ·subst hji; exact hy.wpOp hi hS ⟨fun _ => hS, H⟩
  ·have hm := ready_mono hj hji
   rw [H.1] at hm
   cases hm
 | succ f ih =>
  intro listed a w inv hfree hr hy hS H
  have hun := (mem_ready.1 hr).1
  refine ⟨fun h0 => (by rw [h0] at hr; cases hr), fun j hj => ?_⟩
  by_cases hji : j = i
  ·subst hji; exact hy.wpOp hi hS ⟨fun _ => hS, H⟩
  ·have hjn : j < n := by
    rcases Nat.lt_or_ge j n with h | h
    ·exact h
    ·exact absurd hj (tail_waits hs hc hn inv _ i rfl hin hun j h)
   have hstep := H.2 j (ready_mono hj hji)
   obtain ⟨hjun, oj, hoj, hall⟩ := mem_ready.1 hj
   have hnot : ∀ e ∈ oj.after, Region.binds md e = true → e.on ≠ i := fun e he hb heq => by
    have q := hall e he hb
    rw [heq, getD_both hun] at q
    cases q
   have h2 := wpOp_putIf hoj (hfree j oj hoj hji hjun hnot) (fun cs b => hsel i oi cs b hi) (fun cs b => hsel j oj cs b hoj) hQ hy hstep
   refine wpOp_mono (fun a' w' h3 => ⟨fun _ => h3.2.1 hjn, ih (listed.setIfInBounds j true) a' w' (inv.set hj hjn) (fun k ok hk hki hku hno => ?_) (ready_mono hr (Ne.symm hji)) h3.1 (h3.2.1 hjn) ?_⟩) h2
   ·refine hfree k ok hk hki ?_ hno
    by_cases hjk : j = k
    ·subst hjk; exact hjun
    ·rwa [getD_set_ne true hjk] at hku
   ·have := h3.2.2
    rwa [Array.setIfInBounds_comm _ _ hji]
def skB (md : Region.Mode) (ops : Array Oper) (n : Nat) (listed : Array Bool) (i : Nat) : Bool :=
 Region.noSelect ops && Region.free md ops listed i && (Region.ready md ops listed).contains i && Region.sinkB md ops n && Region.chainB md ops n && decide (n < ops.size) && decide (i < n) && headB md ops n listed
theorem wpSk_take {i : Nat} {oi : Oper} {v : Value} {f : Nat} {listed : Array Bool} {a : Act} {w : World} (hi : ops[i]? = some oi) (hB : skB md ops n listed i = true)
  (hQ : ∀ c a w, Q (.panic c) (a.put oi.dst v) w → Q (.panic c) a w) (hy : YieldsIf P ops S oi v a) (hS : S w)
  (h : wpSk P md ops Q S n f (listed.setIfInBounds i true) (a.put oi.dst v) w) : wpSk P md ops Q S n (f + 1) listed a w := by
 unfold skB at hB
 simp only [Bool.and_eq_true, decide_eq_true_eq] at hB
 obtain ⟨⟨⟨⟨⟨⟨⟨h1, h2⟩, h3⟩, h4⟩, h5⟩, h6⟩, h7⟩, h8⟩ := hB
 exact wpSk_first hi (Region.noSelect_spec h1) hQ h4 h5 h6 h7 f listed a w (headB_inv h8) (Region.free_spec hi h2) (by simpa using h3) hy hS h
theorem skT (i : Nat) {oi : Oper} {v : Value} {f : Nat} {listed : Array Bool} {a a' : Act} {w : World} (h : wpSk P md ops Q S n f (listed.setIfInBounds i true) a' w)
  (hi : ops[i]? = some oi := by rfl) (hB : skB md ops n listed i = true := by kernel_rfl) (hQ : ∀ c a w, Q (.panic c) (a.put oi.dst v) w → Q (.panic c) a w := by exact fun _ _ _ h => h)
  (hy : YieldsIf P ops S oi v a := by exact Or.inl ⟨by rfl, by intro wS hSw; (try dsimp only at hSw); go_simp; (try with_reducible rfl)⟩) (hS : S w := by assumption)
  (ha : a.put oi.dst v = a' := by ((try simp only [Act.put, layS, layZ, layC]); rfl)) : wpSk P md ops Q S n (f + 1) listed a w := by subst ha; exact wpSk_take hi hB hQ hy hS h
theorem wpSk_step {i : Nat} {o : Oper} {f : Nat} {listed : Array Bool} {a : Act} {w : World} (hr : Region.ready md ops listed = [i]) (ho : ops[i]? = some o)
  (h : ∀ K : Act → World → Prop, Shut (∀ a w, (i < n → S w) → wpSk P md ops Q S n f (listed.setIfInBounds i true) a w → K a w) → if Region.wanted o (yielded ops a.tmps) = true then Oper.wp P o a w K Q else K (a.put o.dst undef) w) :
  wpSk P md ops Q S n (f + 1) listed a w := by
 refine ⟨fun h0 => (by rw [hr] at h0; cases h0), fun j hj => ?_⟩
 rw [hr, List.mem_singleton] at hj
 subst hj
 exact wpOp_step ho (fun K hK => h K (fun a w h1 h2 => hK a w ⟨h1, h2⟩))
theorem wpSk_done {listed : Array Bool} {a : Act} {w : World} (hr : Region.ready md ops listed = []) (h : Q .normal a w) : ∀ f, wpSk P md ops Q S n f listed a w
 | 0 => ⟨hr, h⟩
 | _ + 1 => ⟨fun _ => h, by rw [hr]; simp⟩
theorem wp_region_sk (S : World → Prop) (n : Nat) {id : Nat} {a : Act} {w : World} (hm : P.follows .mixedOrders = true) (hS : S w.drew)
  (h : S w.drew → wpSk P .any ops Q S n ops.size (Array.replicate ops.size false) a w.drew) : (Code.region id ops true).wp P Q a w :=
 wp_region_any hm (wpAny_of_sk _ _ _ _ (h hS))
end
theorem totGs_ltE {l : List St} {x : St} (h : x ∈ l) : 1 + totG x ≤ totGs l := by
 induction l with
 | nil => cases h
 | cons a r ih =>
  rw [totGs]
  rcases List.mem_cons.1 h with rfl | h
  ·omega
  ·have := ih h; omega
def AddR (w w' : World) (kb : Nat) (env : Env) (gA lA pA eA : Option Addr) (gc lc pc en ec n0 : Nat) (cur : List Ic) (base : Nat) (Z : Nat → Prop) (l : List St) (e : Ending) : Prop :=
 e = .returned (.tuple #[]) ∧ Keep (Fz base Z kb) w w' ∧ ∃ A' n' c' cur', cur' = cur ++ emSs env n0 l ∧ w'.heap[kb]? = some (.cells #[.slice gA env.G.length gc, .slice lA env.L.length lc, .slice pA env.P.length pc, .slice eA en ec, .slice A' n' c'] 32 (0, 0)) ∧ GrwI base Z w' (.slice A' n' c') cur'
abbrev AddC (l : List St) : Prop := ∀ (A : Option Addr) (c : Nat) (w : World) (kb : Nat) (env : Env) (gA lA pA eA : Option Addr) (gc lc pc en ec : Nat) (Ai : Option Addr) (ni ci : Nat) (cur : List Ic) (base : Nat) (Z : Nat → Prop),
 StRow (Fz base Z kb) w A l → l.length ≤ c → c ≤ maxLen → kdSs l → totGs l ≤ 1048577 → cur.length + 2 * snodess l ≤ 100000 →
 (StrsF (Fz base Z kb) w (.slice gA env.G.length gc) env.G ∧ StrsF (Fz base Z kb) w (.slice lA env.L.length lc) env.L ∧ StrsF (Fz base Z kb) w (.slice pA env.P.length pc) env.P) → (env.G.length ≤ 1000 ∧ env.L.length ≤ 1000 ∧ env.P.length ≤ 1000) →
 kb < base → base ≤ w.heap.size → (∀ b, Z b → b < w.heap.size) → w.heap[kb]? = some (.cells #[.slice gA env.G.length gc, .slice lA env.L.length lc, .slice pA env.P.length pc, .slice eA en ec, .slice Ai ni ci] 32 (0, 0)) → GrwI base Z w (.slice Ai ni ci) cur →
 Calls Tryz.prog 19 #[.pointer (some ⟨kb, 0, none⟩), .slice A l.length c] w fun e w' => AddR w w' kb env gA lA pA eA gc lc pc en ec ni cur base Z l e
def firstLoop : Code → Option Code
 | .loop c => some c
 | .seq a b => match firstLoop a with
  | some c => some c
  | none => firstLoop b
 | .block _ c => firstLoop c
 | .scope c => firstLoop c
 | .cond _ a b => match firstLoop a with
  | some c => some c
  | none => firstLoop b
 | _ => none
def condAt (n : Nat) : Code → Option Code
 | .loop c => condAt n c
 | .seq a b => match condAt n a with
  | some c => some c
  | none => condAt n b
 | .block _ c => condAt n c
 | .scope c => condAt n c
 | .cond c a b => match c with
  | .tmp m => if m == n then some (.cond c a b) else match condAt n a with
   | some c => some c
   | none => condAt n b
  | _ => none
 | _ => none
noncomputable def adBody : Code := ((Tryz.f19.body.bind firstLoop).getD .skip)
noncomputable def adIf : Code := ((Tryz.f19.body.bind (condAt 117)).getD .skip)
def AdFr (v0 x1 x2 x3 x4 v8 v9 v10 : Value) (a : Act) : Prop := ∃ u5 u6 u7 u11 u12 u13 u14 u15 u16 u17 u18 u19 u20 u21 u22 u23 u24 u25 u26 u27 u28 u29 u30 u31 u32 u33 u34 u35 u36 u37 u38 u39 u40 u41 u42 u43 u44 u45 u46 u47 u48 u49 u50 u51 u52 u53 u54 u55 u56 u57 u58 u59 u60 u61 u62 u63 u64 u65 u66 u67 u68 u69 u70 u71 u72 u73 u74 u75 u76 u77 u78 u79 u80 u81 u82 u83 u84 u85 u86 u87 u88 u89 u90 u91 u92 u93 u94 u95 u96 u97 u98 u99 u100 u101 u102 u103 u104 u105 u106 u107 u108 u109 u110 u111 u112 u113 u114 u115 u116 u117 u118 u119 u120 u121 u122 u123 u124 u125 u126 u127 u128 u129 u130 u131 u132 u133 u134 u135 u136 u137 u138 u139 u140 u141 u142 u143 u144 u145 u146 u147 u148 u149 u150 u151 u152 u153 u154 u155 u156 u157 u158 u159 u160 u161 u162 u163 u164 u165 u166 u167 u168 u169 u170 u171 u172 u173 u174 u175 u176 u177 u178 u179 u180 u181 u182 u183 u184 u185 u186 u187 u188 u189 u190 u191 u192 u193 u194 u195 u196 u197 u198 u199 u200 u201 u202 u203 u204 u205 u206 u207 u208 u209 u210 u211 u212 u213 u214 u215 u216 u217 u218 u219 u220 u221 u222 u223 u224 u225 u226 u227 u228 u229 u230 u231 u232 u233 u234 u235 u236 u237 u238 u239 u240 u241 u242 u243 u244 u245 u246 u247 u248 u249 : Value, a = ⟨(v0::x1::x2::x3::x4::u5::u6::u7::v8::v9::v10::u11::u12::u13::u14::u15::u16::u17::u18::u19::u20::u21::u22::u23::u24::u25::u26::u27::u28::u29::u30::u31::u32::u33::u34::u35::u36::u37::u38::u39::u40::u41::u42::u43::u44::u45::u46::u47::u48::u49::u50::u51::u52::u53::u54::u55::u56::u57::u58::u59::u60::u61::u62::u63::u64::u65::u66::u67::u68::u69::u70::u71::u72::u73::u74::u75::u76::u77::u78::u79::u80::u81::u82::u83::u84::u85::u86::u87::u88::u89::u90::u91::u92::u93::u94::u95::u96::u97::u98::u99::u100::u101::u102::u103::u104::u105::u106::u107::u108::u109::u110::u111::u112::u113::u114::u115::u116::u117::u118::u119::u120::u121::u122::u123::u124::u125::u126::u127::u128::u129::u130::u131::u132::u133::u134::u135::u136::u137::u138::u139::u140::u141::u142::u143::u144::u145::u146::u147::u148::u149::u150::u151::u152::u153::u154::u155::u156::u157::u158::u159::u160::u161::u162::u163::u164::u165::u166::u167::u168::u169::u170::u171::u172::u173::u174::u175::u176::u177::u178::u179::u180::u181::u182::u183::u184::u185::u186::u187::u188::u189::u190::u191::u192::u193::u194::u195::u196::u197::u198::u199::u200::u201::u202::u203::u204::u205::u206::u207::u208::u209::u210::u211::u212::u213::u214::u215::u216::u217::u218::u219::u220::u221::u222::u223::u224::u225::u226::u227::u228::u229::u230::u231::u232::u233::u234::u235::u236::u237::u238::u239::u240::u241::u242::u243::u244::u245::u246::u247::u248::u249::[]).toArray, []⟩
theorem AdFr.mk {v0 x1 x2 x3 x4 v8 v9 v10 : Value} {u5 u6 u7 u11 u12 u13 u14 u15 u16 u17 u18 u19 u20 u21 u22 u23 u24 u25 u26 u27 u28 u29 u30 u31 u32 u33 u34 u35 u36 u37 u38 u39 u40 u41 u42 u43 u44 u45 u46 u47 u48 u49 u50 u51 u52 u53 u54 u55 u56 u57 u58 u59 u60 u61 u62 u63 u64 u65 u66 u67 u68 u69 u70 u71 u72 u73 u74 u75 u76 u77 u78 u79 u80 u81 u82 u83 u84 u85 u86 u87 u88 u89 u90 u91 u92 u93 u94 u95 u96 u97 u98 u99 u100 u101 u102 u103 u104 u105 u106 u107 u108 u109 u110 u111 u112 u113 u114 u115 u116 u117 u118 u119 u120 u121 u122 u123 u124 u125 u126 u127 u128 u129 u130 u131 u132 u133 u134 u135 u136 u137 u138 u139 u140 u141 u142 u143 u144 u145 u146 u147 u148 u149 u150 u151 u152 u153 u154 u155 u156 u157 u158 u159 u160 u161 u162 u163 u164 u165 u166 u167 u168 u169 u170 u171 u172 u173 u174 u175 u176 u177 u178 u179 u180 u181 u182 u183 u184 u185 u186 u187 u188 u189 u190 u191 u192 u193 u194 u195 u196 u197 u198 u199 u200 u201 u202 u203 u204 u205 u206 u207 u208 u209 u210 u211 u212 u213 u214 u215 u216 u217 u218 u219 u220 u221 u222 u223 u224 u225 u226 u227 u228 u229 u230 u231 u232 u233 u234 u235 u236 u237 u238 u239 u240 u241 u242 u243 u244 u245 u246 u247 u248 u249 : Value} : AdFr v0 x1 x2 x3 x4 v8 v9 v10 ⟨(v0::x1::x2::x3::x4::u5::u6::u7::v8::v9::v10::u11::u12::u13::u14::u15::u16::u17::u18::u19::u20::u21::u22::u23::u24::u25::u26::u27::u28::u29::u30::u31::u32::u33::u34::u35::u36::u37::u38::u39::u40::u41::u42::u43::u44::u45::u46::u47::u48::u49::u50::u51::u52::u53::u54::u55::u56::u57::u58::u59::u60::u61::u62::u63::u64::u65::u66::u67::u68::u69::u70::u71::u72::u73::u74::u75::u76::u77::u78::u79::u80::u81::u82::u83::u84::u85::u86::u87::u88::u89::u90::u91::u92::u93::u94::u95::u96::u97::u98::u99::u100::u101::u102::u103::u104::u105::u106::u107::u108::u109::u110::u111::u112::u113::u114::u115::u116::u117::u118::u119::u120::u121::u122::u123::u124::u125::u126::u127::u128::u129::u130::u131::u132::u133::u134::u135::u136::u137::u138::u139::u140::u141::u142::u143::u144::u145::u146::u147::u148::u149::u150::u151::u152::u153::u154::u155::u156::u157::u158::u159::u160::u161::u162::u163::u164::u165::u166::u167::u168::u169::u170::u171::u172::u173::u174::u175::u176::u177::u178::u179::u180::u181::u182::u183::u184::u185::u186::u187::u188::u189::u190::u191::u192::u193::u194::u195::u196::u197::u198::u199::u200::u201::u202::u203::u204::u205::u206::u207::u208::u209::u210::u211::u212::u213::u214::u215::u216::u217::u218::u219::u220::u221::u222::u223::u224::u225::u226::u227::u228::u229::u230::u231::u232::u233::u234::u235::u236::u237::u238::u239::u240::u241::u242::u243::u244::u245::u246::u247::u248::u249::[]).toArray, []⟩ := by
 unfold AdFr
 iterate 242 (apply Exists.intro)
 rfl
theorem AdFr.all {P : Act → Prop} {v0 x1 x2 x3 x4 v8 v9 v10 : Value} (f : ∀ u5 u6 u7 u11 u12 u13 u14 u15 u16 u17 u18 u19 u20 u21 u22 u23 u24 u25 u26 u27 u28 u29 u30 u31 u32 u33 u34 u35 u36 u37 u38 u39 u40 u41 u42 u43 u44 u45 u46 u47 u48 u49 u50 u51 u52 u53 u54 u55 u56 u57 u58 u59 u60 u61 u62 u63 u64 u65 u66 u67 u68 u69 u70 u71 u72 u73 u74 u75 u76 u77 u78 u79 u80 u81 u82 u83 u84 u85 u86 u87 u88 u89 u90 u91 u92 u93 u94 u95 u96 u97 u98 u99 u100 u101 u102 u103 u104 u105 u106 u107 u108 u109 u110 u111 u112 u113 u114 u115 u116 u117 u118 u119 u120 u121 u122 u123 u124 u125 u126 u127 u128 u129 u130 u131 u132 u133 u134 u135 u136 u137 u138 u139 u140 u141 u142 u143 u144 u145 u146 u147 u148 u149 u150 u151 u152 u153 u154 u155 u156 u157 u158 u159 u160 u161 u162 u163 u164 u165 u166 u167 u168 u169 u170 u171 u172 u173 u174 u175 u176 u177 u178 u179 u180 u181 u182 u183 u184 u185 u186 u187 u188 u189 u190 u191 u192 u193 u194 u195 u196 u197 u198 u199 u200 u201 u202 u203 u204 u205 u206 u207 u208 u209 u210 u211 u212 u213 u214 u215 u216 u217 u218 u219 u220 u221 u222 u223 u224 u225 u226 u227 u228 u229 u230 u231 u232 u233 u234 u235 u236 u237 u238 u239 u240 u241 u242 u243 u244 u245 u246 u247 u248 u249 : Value, P ⟨(v0::x1::x2::x3::x4::u5::u6::u7::v8::v9::v10::u11::u12::u13::u14::u15::u16::u17::u18::u19::u20::u21::u22::u23::u24::u25::u26::u27::u28::u29::u30::u31::u32::u33::u34::u35::u36::u37::u38::u39::u40::u41::u42::u43::u44::u45::u46::u47::u48::u49::u50::u51::u52::u53::u54::u55::u56::u57::u58::u59::u60::u61::u62::u63::u64::u65::u66::u67::u68::u69::u70::u71::u72::u73::u74::u75::u76::u77::u78::u79::u80::u81::u82::u83::u84::u85::u86::u87::u88::u89::u90::u91::u92::u93::u94::u95::u96::u97::u98::u99::u100::u101::u102::u103::u104::u105::u106::u107::u108::u109::u110::u111::u112::u113::u114::u115::u116::u117::u118::u119::u120::u121::u122::u123::u124::u125::u126::u127::u128::u129::u130::u131::u132::u133::u134::u135::u136::u137::u138::u139::u140::u141::u142::u143::u144::u145::u146::u147::u148::u149::u150::u151::u152::u153::u154::u155::u156::u157::u158::u159::u160::u161::u162::u163::u164::u165::u166::u167::u168::u169::u170::u171::u172::u173::u174::u175::u176::u177::u178::u179::u180::u181::u182::u183::u184::u185::u186::u187::u188::u189::u190::u191::u192::u193::u194::u195::u196::u197::u198::u199::u200::u201::u202::u203::u204::u205::u206::u207::u208::u209::u210::u211::u212::u213::u214::u215::u216::u217::u218::u219::u220::u221::u222::u223::u224::u225::u226::u227::u228::u229::u230::u231::u232::u233::u234::u235::u236::u237::u238::u239::u240::u241::u242::u243::u244::u245::u246::u247::u248::u249::[]).toArray, []⟩) : ∀ a, AdFr v0 x1 x2 x3 x4 v8 v9 v10 a → P a := by
 intro a h
 iterate 242 (obtain ⟨_, h⟩ := h)
 subst h
 apply f
def AdF2 (v0 x1 x2 x3 x4 v5 v6 v8 v9 v10 v117 : Value) (a : Act) : Prop := ∃ u7 u11 u12 u13 u14 u15 u16 u17 u18 u19 u20 u21 u22 u23 u24 u25 u26 u27 u28 u29 u30 u31 u32 u33 u34 u35 u36 u37 u38 u39 u40 u41 u42 u43 u44 u45 u46 u47 u48 u49 u50 u51 u52 u53 u54 u55 u56 u57 u58 u59 u60 u61 u62 u63 u64 u65 u66 u67 u68 u69 u70 u71 u72 u73 u74 u75 u76 u77 u78 u79 u80 u81 u82 u83 u84 u85 u86 u87 u88 u89 u90 u91 u92 u93 u94 u95 u96 u97 u98 u99 u100 u101 u102 u103 u104 u105 u106 u107 u108 u109 u110 u111 u112 u113 u114 u115 u116 u118 u119 u120 u121 u122 u123 u124 u125 u126 u127 u128 u129 u130 u131 u132 u133 u134 u135 u136 u137 u138 u139 u140 u141 u142 u143 u144 u145 u146 u147 u148 u149 u150 u151 u152 u153 u154 u155 u156 u157 u158 u159 u160 u161 u162 u163 u164 u165 u166 u167 u168 u169 u170 u171 u172 u173 u174 u175 u176 u177 u178 u179 u180 u181 u182 u183 u184 u185 u186 u187 u188 u189 u190 u191 u192 u193 u194 u195 u196 u197 u198 u199 u200 u201 u202 u203 u204 u205 u206 u207 u208 u209 u210 u211 u212 u213 u214 u215 u216 u217 u218 u219 u220 u221 u222 u223 u224 u225 u226 u227 u228 u229 u230 u231 u232 u233 u234 u235 u236 u237 u238 u239 u240 u241 u242 u243 u244 u245 u246 u247 u248 u249 : Value, a = ⟨(v0::x1::x2::x3::x4::v5::v6::u7::v8::v9::v10::u11::u12::u13::u14::u15::u16::u17::u18::u19::u20::u21::u22::u23::u24::u25::u26::u27::u28::u29::u30::u31::u32::u33::u34::u35::u36::u37::u38::u39::u40::u41::u42::u43::u44::u45::u46::u47::u48::u49::u50::u51::u52::u53::u54::u55::u56::u57::u58::u59::u60::u61::u62::u63::u64::u65::u66::u67::u68::u69::u70::u71::u72::u73::u74::u75::u76::u77::u78::u79::u80::u81::u82::u83::u84::u85::u86::u87::u88::u89::u90::u91::u92::u93::u94::u95::u96::u97::u98::u99::u100::u101::u102::u103::u104::u105::u106::u107::u108::u109::u110::u111::u112::u113::u114::u115::u116::v117::u118::u119::u120::u121::u122::u123::u124::u125::u126::u127::u128::u129::u130::u131::u132::u133::u134::u135::u136::u137::u138::u139::u140::u141::u142::u143::u144::u145::u146::u147::u148::u149::u150::u151::u152::u153::u154::u155::u156::u157::u158::u159::u160::u161::u162::u163::u164::u165::u166::u167::u168::u169::u170::u171::u172::u173::u174::u175::u176::u177::u178::u179::u180::u181::u182::u183::u184::u185::u186::u187::u188::u189::u190::u191::u192::u193::u194::u195::u196::u197::u198::u199::u200::u201::u202::u203::u204::u205::u206::u207::u208::u209::u210::u211::u212::u213::u214::u215::u216::u217::u218::u219::u220::u221::u222::u223::u224::u225::u226::u227::u228::u229::u230::u231::u232::u233::u234::u235::u236::u237::u238::u239::u240::u241::u242::u243::u244::u245::u246::u247::u248::u249::[]).toArray, []⟩
theorem AdF2.mk {v0 x1 x2 x3 x4 v5 v6 v8 v9 v10 v117 : Value} {u7 u11 u12 u13 u14 u15 u16 u17 u18 u19 u20 u21 u22 u23 u24 u25 u26 u27 u28 u29 u30 u31 u32 u33 u34 u35 u36 u37 u38 u39 u40 u41 u42 u43 u44 u45 u46 u47 u48 u49 u50 u51 u52 u53 u54 u55 u56 u57 u58 u59 u60 u61 u62 u63 u64 u65 u66 u67 u68 u69 u70 u71 u72 u73 u74 u75 u76 u77 u78 u79 u80 u81 u82 u83 u84 u85 u86 u87 u88 u89 u90 u91 u92 u93 u94 u95 u96 u97 u98 u99 u100 u101 u102 u103 u104 u105 u106 u107 u108 u109 u110 u111 u112 u113 u114 u115 u116 u118 u119 u120 u121 u122 u123 u124 u125 u126 u127 u128 u129 u130 u131 u132 u133 u134 u135 u136 u137 u138 u139 u140 u141 u142 u143 u144 u145 u146 u147 u148 u149 u150 u151 u152 u153 u154 u155 u156 u157 u158 u159 u160 u161 u162 u163 u164 u165 u166 u167 u168 u169 u170 u171 u172 u173 u174 u175 u176 u177 u178 u179 u180 u181 u182 u183 u184 u185 u186 u187 u188 u189 u190 u191 u192 u193 u194 u195 u196 u197 u198 u199 u200 u201 u202 u203 u204 u205 u206 u207 u208 u209 u210 u211 u212 u213 u214 u215 u216 u217 u218 u219 u220 u221 u222 u223 u224 u225 u226 u227 u228 u229 u230 u231 u232 u233 u234 u235 u236 u237 u238 u239 u240 u241 u242 u243 u244 u245 u246 u247 u248 u249 : Value} : AdF2 v0 x1 x2 x3 x4 v5 v6 v8 v9 v10 v117 ⟨(v0::x1::x2::x3::x4::v5::v6::u7::v8::v9::v10::u11::u12::u13::u14::u15::u16::u17::u18::u19::u20::u21::u22::u23::u24::u25::u26::u27::u28::u29::u30::u31::u32::u33::u34::u35::u36::u37::u38::u39::u40::u41::u42::u43::u44::u45::u46::u47::u48::u49::u50::u51::u52::u53::u54::u55::u56::u57::u58::u59::u60::u61::u62::u63::u64::u65::u66::u67::u68::u69::u70::u71::u72::u73::u74::u75::u76::u77::u78::u79::u80::u81::u82::u83::u84::u85::u86::u87::u88::u89::u90::u91::u92::u93::u94::u95::u96::u97::u98::u99::u100::u101::u102::u103::u104::u105::u106::u107::u108::u109::u110::u111::u112::u113::u114::u115::u116::v117::u118::u119::u120::u121::u122::u123::u124::u125::u126::u127::u128::u129::u130::u131::u132::u133::u134::u135::u136::u137::u138::u139::u140::u141::u142::u143::u144::u145::u146::u147::u148::u149::u150::u151::u152::u153::u154::u155::u156::u157::u158::u159::u160::u161::u162::u163::u164::u165::u166::u167::u168::u169::u170::u171::u172::u173::u174::u175::u176::u177::u178::u179::u180::u181::u182::u183::u184::u185::u186::u187::u188::u189::u190::u191::u192::u193::u194::u195::u196::u197::u198::u199::u200::u201::u202::u203::u204::u205::u206::u207::u208::u209::u210::u211::u212::u213::u214::u215::u216::u217::u218::u219::u220::u221::u222::u223::u224::u225::u226::u227::u228::u229::u230::u231::u232::u233::u234::u235::u236::u237::u238::u239::u240::u241::u242::u243::u244::u245::u246::u247::u248::u249::[]).toArray, []⟩ := by
 unfold AdF2
 iterate 239 (apply Exists.intro)
 rfl
theorem AdF2.all {P : Act → Prop} {v0 x1 x2 x3 x4 v5 v6 v8 v9 v10 v117 : Value} (f : ∀ u7 u11 u12 u13 u14 u15 u16 u17 u18 u19 u20 u21 u22 u23 u24 u25 u26 u27 u28 u29 u30 u31 u32 u33 u34 u35 u36 u37 u38 u39 u40 u41 u42 u43 u44 u45 u46 u47 u48 u49 u50 u51 u52 u53 u54 u55 u56 u57 u58 u59 u60 u61 u62 u63 u64 u65 u66 u67 u68 u69 u70 u71 u72 u73 u74 u75 u76 u77 u78 u79 u80 u81 u82 u83 u84 u85 u86 u87 u88 u89 u90 u91 u92 u93 u94 u95 u96 u97 u98 u99 u100 u101 u102 u103 u104 u105 u106 u107 u108 u109 u110 u111 u112 u113 u114 u115 u116 u118 u119 u120 u121 u122 u123 u124 u125 u126 u127 u128 u129 u130 u131 u132 u133 u134 u135 u136 u137 u138 u139 u140 u141 u142 u143 u144 u145 u146 u147 u148 u149 u150 u151 u152 u153 u154 u155 u156 u157 u158 u159 u160 u161 u162 u163 u164 u165 u166 u167 u168 u169 u170 u171 u172 u173 u174 u175 u176 u177 u178 u179 u180 u181 u182 u183 u184 u185 u186 u187 u188 u189 u190 u191 u192 u193 u194 u195 u196 u197 u198 u199 u200 u201 u202 u203 u204 u205 u206 u207 u208 u209 u210 u211 u212 u213 u214 u215 u216 u217 u218 u219 u220 u221 u222 u223 u224 u225 u226 u227 u228 u229 u230 u231 u232 u233 u234 u235 u236 u237 u238 u239 u240 u241 u242 u243 u244 u245 u246 u247 u248 u249 : Value, P ⟨(v0::x1::x2::x3::x4::v5::v6::u7::v8::v9::v10::u11::u12::u13::u14::u15::u16::u17::u18::u19::u20::u21::u22::u23::u24::u25::u26::u27::u28::u29::u30::u31::u32::u33::u34::u35::u36::u37::u38::u39::u40::u41::u42::u43::u44::u45::u46::u47::u48::u49::u50::u51::u52::u53::u54::u55::u56::u57::u58::u59::u60::u61::u62::u63::u64::u65::u66::u67::u68::u69::u70::u71::u72::u73::u74::u75::u76::u77::u78::u79::u80::u81::u82::u83::u84::u85::u86::u87::u88::u89::u90::u91::u92::u93::u94::u95::u96::u97::u98::u99::u100::u101::u102::u103::u104::u105::u106::u107::u108::u109::u110::u111::u112::u113::u114::u115::u116::v117::u118::u119::u120::u121::u122::u123::u124::u125::u126::u127::u128::u129::u130::u131::u132::u133::u134::u135::u136::u137::u138::u139::u140::u141::u142::u143::u144::u145::u146::u147::u148::u149::u150::u151::u152::u153::u154::u155::u156::u157::u158::u159::u160::u161::u162::u163::u164::u165::u166::u167::u168::u169::u170::u171::u172::u173::u174::u175::u176::u177::u178::u179::u180::u181::u182::u183::u184::u185::u186::u187::u188::u189::u190::u191::u192::u193::u194::u195::u196::u197::u198::u199::u200::u201::u202::u203::u204::u205::u206::u207::u208::u209::u210::u211::u212::u213::u214::u215::u216::u217::u218::u219::u220::u221::u222::u223::u224::u225::u226::u227::u228::u229::u230::u231::u232::u233::u234::u235::u236::u237::u238::u239::u240::u241::u242::u243::u244::u245::u246::u247::u248::u249::[]).toArray, []⟩) : ∀ a, AdF2 v0 x1 x2 x3 x4 v5 v6 v8 v9 v10 v117 a → P a := by
 intro a h
 iterate 239 (obtain ⟨_, h⟩ := h)
 subst h
 apply f
abbrev SpJ (kb sb : Nat) (g0 g1 g2 g4 s1 s2 s3 s4 s5 : Value) (w : World) : Prop := w.cell? ⟨kb, 0, none⟩ = some g0 ∧ w.cell? ⟨kb, 1, none⟩ = some g1 ∧ w.cell? ⟨kb, 2, none⟩ = some g2 ∧ w.cell? ⟨kb, 4, none⟩ = some g4 ∧ w.cell? ⟨sb, 1, none⟩ = some s1 ∧ w.cell? ⟨sb, 2, none⟩ = some s2 ∧ w.cell? ⟨sb, 3, none⟩ = some s3 ∧ w.cell? ⟨sb, 4, none⟩ = some s4 ∧ w.cell? ⟨sb, 5, none⟩ = some s5 ∧ kb < w.heap.size ∧ sb < w.heap.size
theorem spJ_of {w : World} {kb sb : Nat} {a b c x y s0 s1 s2 s3 s4 s5 s6 s7 : Value} {T U : TypeId} (hk : w.heap[kb]? = some (.cells #[a, b, c, x, y] T (0, 0))) (hs : w.heap[sb]? = some (.cells #[s0, s1, s2, s3, s4, s5, s6, s7] U (0, 0))) : SpJ kb sb a b c y s1 s2 s3 s4 s5 w :=
 ⟨(box5 hk).1, (box5 hk).2.1, (box5 hk).2.2.1, (box5 hk).2.2.2.2.1, (cells8 hs).2.1, (cells8 hs).2.2.1, (cells8 hs).2.2.2.1, (cells8 hs).2.2.2.2.1, (cells8 hs).2.2.2.2.2.1, lt_of_block hk, lt_of_block hs⟩
theorem SpJ.alloc {w : World} {kb sb : Nat} {g0 g1 g2 g4 s1 s2 s3 s4 s5 : Value} (h : SpJ kb sb g0 g1 g2 g4 s1 s2 s3 s4 s5 w) (o : Obj) : SpJ kb sb g0 g1 g2 g4 s1 s2 s3 s4 s5 (w.alloc o) := by
 obtain ⟨h0, h1, h2, hf, h3, h4, h5, h6, h7, hk, hs⟩ := h
 have hb : Below w.heap.size w (w.alloc o) := Below.alloc (Below.refl _ _) (Nat.le_refl _) _
 exact ⟨cell_keep hb h0, cell_keep hb h1, cell_keep hb h2, cell_keep hb hf, cell_keep hb h3, cell_keep hb h4, cell_keep hb h5, cell_keep hb h6, cell_keep hb h7, by simp; omega, by simp; omega⟩
def AdJ (w wr : World) (kb : Nat) (env : Env) (gA lA pA eA : Option Addr) (gc lc pc en ec ni : Nat) (cur : List Ic) (base : Nat) (Z : Nat → Prop) (l : List St) (j : Nat) : Prop :=
 ∃ A1 n1 c1 c1', c1' = cur ++ emSs env ni (l.take j) ∧ wr.heap[kb]? = some (.cells #[.slice gA env.G.length gc, .slice lA env.L.length lc, .slice pA env.P.length pc, .slice eA en ec, .slice A1 n1 c1] 32 (0, 0)) ∧ GrwI base Z wr (.slice A1 n1 c1) c1' ∧ Keep (Fz base Z kb) w wr
def IfJ (u0 w' : World) (xs : ByteArray) (tk tn : Int) (ts : ByteArray) (tA bA oA : Option Addr) (tm tc bc oc : Nat) (t : Tm) (body els : List St) (kb sb : Nat) (env : Env) (gA lA pA eA : Option Addr) (gc lc pc en ec : Nat) (base : Nat) (Zs : Nat → Prop) (n0 : Nat) (cu0 : List Ic) : Prop :=
 ∃ A' n' c' cu', cu' = cu0 ++ emT env n0 (.mk 2 xs t body els) ∧ w'.heap[kb]? = some (.cells #[.slice gA env.G.length gc, .slice lA env.L.length lc, .slice pA env.P.length pc, .slice eA en ec, .slice A' n' c'] 32 (0, 0)) ∧ w'.heap[sb]? = some (.cells #[.int .i64 2, .string xs, .int .i64 tk, .int .i64 tn, .string ts, .slice tA tm tc, .slice bA body.length bc, .slice oA els.length oc] 71 (0, 0)) ∧ GrwI base Zs w' (.slice A' n' c') cu' ∧ Keep (Fz base Zs kb) u0 w'
end Go.Proofs.YtnmblfonmfjoeaaGreatDoor
