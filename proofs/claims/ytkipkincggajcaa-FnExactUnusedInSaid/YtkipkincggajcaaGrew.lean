/- Appending to a row of the call's own: what is as it was, and where the new row lies. -/
import Derived.Test.YtkipkincggajcaaReadsLaw
import Derived.Test.YtkipkincggajcaaNamesIn
import Derived.Maps.AppendAt
namespace Go.Proofs.Ytkipkincggajcaa
open Go.RowKit
set_option linter.unusedVariables false

/-- all but v's own row is as it was; v' lies in v's row or in a new block -/
structure Grew (v v' : Value) (w w' : World) : Prop where
  keep : Keep (fun i => v.ownBlock ≠ some i) w w'
  lies : v'.ownBlock = v.ownBlock ∨ ∃ g, v'.ownBlock = some g ∧ w.heap.size ≤ g
theorem Grew.refl (v : Value) (w : World) : Grew v v w w := ⟨Keep.refl _ _, .inl rfl⟩
theorem Grew.of_below {v : Value} {w w' : World} (h : Below w.heap.size w w') : Grew v v w w' := ⟨Keep.of_below h, .inl rfl⟩
theorem Grew.trans {u v x : Value} {a b c : World} (h : Grew u v a b) (k : Grew v x b c) : Grew u x a c := by
  refine ⟨h.keep.trans k.keep (fun i hi hu e => ?_), ?_⟩
  · rcases h.lies with h1 | ⟨g, h1, h2⟩
    · exact hu (h1.symm.trans e)
    · rw [h1] at e; injection e with e; omega
  · rcases k.lies with k1 | ⟨g, k1, k2⟩
    · rw [k1]; exact h.lies
    · exact .inr ⟨g, k1, Nat.le_trans h.keep.size k2⟩
theorem Keep.mono {S S' : Nat → Prop} {w w' : World} (h : Keep S w w') (hs : ∀ i, i < w.heap.size → S' i → S i) : Keep S' w w' := ⟨h.os, h.tape, h.output, h.size, fun k hk hS => h.block k hk (hs k hk hS)⟩
theorem Own.neT {w0 w : World} {e : TypeId} {sz n b : Nat} {v : Value} {xs : List Value} (h : Own w0 w e sz v n xs) (hb : Sane e w b) : v.ownBlock ≠ some b := by
  intro e
  rcases h.1.2 with ⟨rfl, _⟩ | ⟨g, cap, cur, rfl, _, hg, _⟩
  · cases e
  · injection e with e
    subst e
    exact hb cur hg
theorem Grew.keepT {w0 w w' : World} {e : TypeId} {sz n : Nat} {v v' : Value} {xs : List Value} (h : Grew v v' w w') (own : Own w0 w e sz v n xs) : KeepT e w w' := h.keep.mono fun _ _ hS => own.neT hS
/-- a row of another block is as it was -/
theorem OwnStrs.grew {w0 w w' : World} {u v v' : Value} {ss : List ByteArray} (h : OwnStrs w0 w u ss) (hg : Grew v v' w w') (hne : ∀ b, u.ownBlock = some b → v.ownBlock ≠ some b) (hv : ∀ b, v.ownBlock = some b → w0.heap.size ≤ b) : OwnStrs w0 w' u ss :=
  h.keepS hg.keep hne (fun b hb e => by have := hv b e; omega)
theorem OwnStrs.setB {w0 w : World} {v : Value} {ss : List ByteArray} {b o : Nat} (h : OwnStrs w0 w v ss) (hb : Sane 9 w b) (hw : w0.heap.size ≤ b) (u : Value) : OwnStrs w0 (w.setCell ⟨b, o, none⟩ u) v ss :=
  ⟨ownsRow_setCell_other h.1 (a := ⟨b, o, none⟩) (Own.neT h hb) u, Below.setCell h.2 hw u⟩
section
variable {P : Program} {w0 w : World}
theorem run_appG (t ty e : TypeId) (sz bt : Nat) (T : ElemT P t e sz bt) (v : Value) (n : Nat) (xs : List Value) (own : Own w0 w e sz v n xs)
    (A : Option Addr) (m c : Nat) (news : List Value) (rd : Rd w sz A m news) (h1 : ∀ u ∈ news, u.oneCell' = true) (h63 : n + m ≤ maxLen) (hb : (n + m) * bt ≤ 140737488355328) :
    ∃ v' w', (Builtin.append_ #[t, t] ty #[v, .slice A m c]).run P w = .ok v' w' ∧ Own w0 w' e sz v' (n + m) (xs ++ news) ∧ Grew v v' w w' := by
  obtain ⟨i, z, hi, hz, hs, hbt, hzs⟩ := T.info
  rcases A with _ | ad
  · have hm : m = 0 := by
      rcases Nat.eq_zero_or_pos m with h | h
      · exact h
      · obtain ⟨b, off, e, _⟩ := rd.2 h; cases e
    subst hm
    have hn : news = [] := List.eq_nil_of_length_eq_zero (by simpa using rd.1)
    subst hn
    refine ⟨v, w, ?_, by simpa using own, Grew.refl _ _⟩
    rcases own.1.2 with ⟨rfl, rfl⟩ | ⟨g, cap, cur, rfl, _, _, hnc, _⟩
    · simp [Builtin.append_, run_underlying T.under, sizeOf, typeInfo, hi, Builtin.lenOf, Builtin.firstCells]
    · simp [Builtin.append_, run_underlying T.under, sizeOf, typeInfo, hi, Builtin.lenOf, Builtin.firstCells, hnc, storeCells]
  · have hcells : ∀ j u, news[j]? = some u → w.cell? (ad.add j) = some u := by
      intro j u hu
      rcases Nat.eq_zero_or_pos m with h0 | h0
      · subst h0
        have hn : news = [] := List.eq_nil_of_length_eq_zero (by simpa using rd.1)
        subst hn
        simp at hu
      · obtain ⟨b, off, h, hc⟩ := rd.2 h0
        injection h with h
        subst h
        rw [Addr.add_lit]
        exact hc j u hu
    obtain ⟨v', w', hr, h2, h3, _, h5⟩ := run_append_own_at (P := P) w w0.heap.size t ty e i z sz bt T.under hi hz hs hbt hzs T.pos v n xs own.1 ad m c news rd.1 hcells h1 h63 hb own.2.size
    refine ⟨v', w', hr, own.grown h2 h3, ⟨h3.os, h3.tape, h3.output, h3.size, fun k hk hne => h3.block k hk (fun e => hne e.symm)⟩, ?_⟩
    rcases h5 with h5 | h5
    · exact .inl h5
    · exact .inr ⟨_, h5, Nat.le_refl _⟩
theorem wp_appG {o : Oper} {a : Act} {K : Act → World → Prop} {Q : Exit → Act → World → Prop} (s x : Operand) (t : TypeId)
    (ho : o.op = .call { callee := .builtin .append, args := #[s, x], argTypes := #[t, t] }) {e : TypeId} {sz bt : Nat} (T : ElemT P t e sz bt) {v : Value} {n : Nat} {xs : List Value} (hs : a.eval s = v) (own : Own w0 w e sz v n xs)
    (A : Option Addr) (m c : Nat) (news : List Value) (hx : a.eval x = .slice A m c) (rd : Rd w sz A m news) (h1 : ∀ u ∈ news, u.oneCell' = true) (h63 : n + m ≤ maxLen) (hb : (n + m) * bt ≤ 140737488355328)
    (h : ∀ v' w', Own w0 w' e sz v' (n + m) (xs ++ news) → Grew v v' w w' → K (a.put o.dst v') w') : o.wp P a w K Q := by
  obtain ⟨v', w', hr, h2, h3⟩ := run_appG (P := P) t o.type e sz bt T v n xs own A m c news rd h1 h63 hb
  unfold Oper.wp execOp
  simp only [ho, resolve, invoke, builtin, Sem.run_bind, Sem.run_pure, Result.andThen_ok, List.map_toArray, List.map_cons, List.map_nil, hs, hx, hr]
  exact h v' w' h2 h3
/-- append onto a row of the call's own, in a plain region -/
theorem wpList_appG {ops : Array Oper} {rest : List Oper} {o : Oper} {a : Act} {Q : Exit → Act → World → Prop} (hgd : o.guard = none) (s x : Operand) (t : TypeId)
    (ho : o.op = .call { callee := .builtin .append, args := #[s, x], argTypes := #[t, t] }) {e : TypeId} {sz bt : Nat} (T : ElemT P t e sz bt) {v : Value} {n : Nat} {xs : List Value} (hs : a.eval s = v) (own : Own w0 w e sz v n xs)
    (A : Option Addr) (m c : Nat) (news : List Value) (hx : a.eval x = .slice A m c) (rd : Rd w sz A m news) (h1 : ∀ u ∈ news, u.oneCell' = true) (h63 : n + m ≤ maxLen) (hb : (n + m) * bt ≤ 140737488355328)
    (h : ∀ v' w', Own w0 w' e sz v' (n + m) (xs ++ news) → Grew v v' w w' → wpList P ops Q rest (a.put o.dst v') w') : wpList P ops Q (o :: rest) a w :=
  wpList_plain hgd fun _ hK => wp_appG s x t ho T hs own A m c news hx rd h1 h63 hb fun v' w' h2 h3 => hK _ _ (h v' w' h2 h3)
/-- the same where what is appended has just been laid in a new block -/
theorem wpList_appG_new {ops : Array Oper} {rest : List Oper} {o : Oper} {a : Act} {Q : Exit → Act → World → Prop} (g : Nat) (hg : g = w.heap.size) (hgd : o.guard = none) (s x : Operand) (t : TypeId)
    (ho : o.op = .call { callee := .builtin .append, args := #[s, x], argTypes := #[t, t] }) {e : TypeId} {sz bt : Nat} (T : ElemT P t e sz bt) {v : Value} {n : Nat} {xs : List Value} (own : Own w0 w e sz v n xs)
    (cs : Array Value) (m : Nat) (hs : a.eval s = v) (hx : a.eval x = .slice (some ⟨g, 0, none⟩) m m) (hl : cs.size = m * sz) (h1 : ∀ u ∈ cs.toList, u.oneCell' = true) (h63 : n + m ≤ maxLen) (hb : (n + m) * bt ≤ 140737488355328)
    (h : ∀ v' w', Own w0 w' e sz v' (n + m) (xs ++ cs.toList) → Grew v v' w w' → wpList P ops Q rest (a.put o.dst v') w') : wpList P ops Q (o :: rest) a (w.alloc (.cells cs e)) := by
  subst hg
  exact wpList_appG hgd s x t ho T hs (own.alloc _) _ m m cs.toList hx (Rd.new w sz m cs e hl) h1 h63 hb fun v' w' h2 h3 =>
    h v' w' h2 ((Grew.of_below (Below.alloc (Below.refl _ _) (Nat.le_refl _) _)).trans h3)
end
theorem impl_addOnceG (w0 w : World) (v : Value) (ss : List ByteArray) (x : ByteArray) (own : OwnStrs w0 w v ss) (hb : ss.length ≤ 10000000) :
    Calls Try.prog 123 #[v, .string x] w fun e w' => ∃ v', e = .returned v' ∧ OwnStrs w0 w' v' (addOnceP ss x) ∧ Grew v v' w w' := by
  have OW := Lib.hid own
  obtain ⟨A, c, rfl, hl⟩ := own.slice
  clear own
  cases h : hasS ss x with
  | true =>
    have HA := Lib.hid (addOnce_yes h)
    go_enter Try.func123, Try.ntmps123
    go_wp2_with fail
    refine (slices_Contains _ ss x _ OW.out.isStrs).mono ?_
    rintro e w1 ⟨rfl, rfl⟩
    rw [h]
    go_wp2_with fail
    go_ret
    exact ⟨_, rfl, by rw [HA.out]; exact OW.out, Grew.refl _ _⟩
  | false =>
    have HA := Lib.hid (addOnce_no h)
    go_enter Try.func123, Try.ntmps123
    go_wp2_with fail
    refine (slices_Contains _ ss x _ OW.out.isStrs).mono ?_
    rintro e w1 ⟨rfl, rfl⟩
    rw [h]
    go_wp2_with (at_builtin; refine wpList_appG_new w.heap.size rfl rfl _ _ _ rfl strT OW.out _ 1 rfl rfl rfl (by simp [Value.oneCell']) (by simp only [maxLen]; omega) (by omega) ?_; intro v3 w3 own3 kp3)
    go_ret
    refine ⟨_, rfl, ?_, kp3⟩
    rw [HA.out]
    unfold OwnStrs
    rw [List.length_append, ← map_snoc]
    exact own3
/-- a name that is not known is gathered once -/
def addUnk (known acc : List ByteArray) (x : ByteArray) : List ByteArray := if hasS known x = true then acc else addOnceP acc x
theorem addUnk_known {known acc : List ByteArray} {x : ByteArray} (h : hasS known x = true) : addUnk known acc x = acc := by simp [addUnk, h]
theorem addUnk_there {known acc : List ByteArray} {x : ByteArray} (h : hasS known x = false) (h2 : hasS acc x = true) : addUnk known acc x = acc := by simp [addUnk, h, addOnce_yes h2]
theorem addUnk_once {known acc : List ByteArray} {x : ByteArray} (h : hasS known x = false) : addUnk known acc x = addOnceP acc x := by simp [addUnk, h]
theorem addUnk_new {known acc : List ByteArray} {x : ByteArray} (h : hasS known x = false) (h2 : hasS acc x = false) : addUnk known acc x = acc ++ [x] := by simp [addUnk, h, addOnce_no h2]
theorem addUnk_len (known acc : List ByteArray) (x : ByteArray) : (addUnk known acc x).length ≤ acc.length + 1 := by
  unfold addUnk
  split
  · omega
  · exact addOnce_len acc x
theorem spec_l07Add (w0 w : World) (v kv : Value) (acc known : List ByteArray) (x : ByteArray) (own : OwnStrs w0 w v acc) (hk : IsStrs w kv known) (hb : acc.length ≤ 10000000) :
    Calls Try.prog 174 #[v, kv, .string x] w fun e w' => ∃ v', e = .returned v' ∧ OwnStrs w0 w' v' (addUnk known acc x) ∧ Grew v v' w w' := by
  have OW := Lib.hid own
  have KV := Lib.hid hk
  obtain ⟨A, c, rfl, hl⟩ := own.slice
  obtain ⟨A2, c2, rfl, _⟩ := hk
  clear own
  cases h : hasS known x with
  | true =>
    have HA := Lib.hid (addUnk_known (acc := acc) h)
    go_enter Try.func174, Try.ntmps174
    go_wp2_with fail
    refine (spec_l04Has _ known x _ KV.out).mono ?_
    rintro e w1 ⟨rfl, rfl⟩
    rw [h]
    clear h
    go_wp2_with fail
    go_ret
    exact ⟨_, rfl, by rw [HA.out]; exact OW.out, Grew.refl _ _⟩
  | false =>
    cases h2 : hasS acc x with
    | true =>
      have HA := Lib.hid (addUnk_there h h2)
      go_enter Try.func174, Try.ntmps174
      go_wp2_with fail
      refine (spec_l04Has _ known x _ KV.out).mono ?_
      rintro e w1 ⟨rfl, rfl⟩
      rw [h]
      clear h
      go_wp2_with fail
      refine (spec_l04Has _ acc x _ OW.out.isStrs).mono ?_
      rintro e w1 ⟨rfl, rfl⟩
      rw [h2]
      clear h2
      go_wp2_with fail
      go_ret
      exact ⟨_, rfl, by rw [HA.out]; exact OW.out, Grew.refl _ _⟩
    | false =>
      have HA := Lib.hid (addUnk_new h h2)
      go_enter Try.func174, Try.ntmps174
      go_wp2_with fail
      refine (spec_l04Has _ known x _ KV.out).mono ?_
      rintro e w1 ⟨rfl, rfl⟩
      rw [h]
      clear h
      go_wp2_with fail
      refine (spec_l04Has _ acc x _ OW.out.isStrs).mono ?_
      rintro e w1 ⟨rfl, rfl⟩
      rw [h2]
      clear h2
      go_wp2_with (at_builtin; refine wpList_appG_new w.heap.size rfl rfl _ _ _ rfl strT OW.out _ 1 rfl rfl rfl (by simp [Value.oneCell']) (by simp only [maxLen]; omega) (by omega) ?_; intro v3 w3 own3 kp3)
      go_ret
      refine ⟨_, rfl, ?_, kp3⟩
      rw [HA.out]
      unfold OwnStrs
      rw [List.length_append, ← map_snoc]
      exact own3
end Go.Proofs.Ytkipkincggajcaa
