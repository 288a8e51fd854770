/- Lemmas for the row. -/
import Derived.Test.YtnmblfonmfjoeaaGreatDoorKc19
namespace Go.Proofs.YtnmblfonmfjoeaaGreatDoor
open Go.RowKit
set_option linter.unusedVariables false
theorem nodess_all (l : List Tm) (M : Nat) (h : ∀ t ∈ l, nodes t + 1 ≤ M) : nodess l + l.length ≤ l.length * M := by
 induction l with
 | nil => simp [nodess]
 | cons t r ih =>
  have h1 := h t (by simp)
  have h2 := ih fun x hx => h x (by simp [hx])
  rw [nodess, List.length_cons, Nat.succ_mul]; omega
theorem nodes_ok (room : Nat) : ∀ t : Tm, okT room t = true → nodes t + 1 ≤ 2 ^ (room + 1) := by
 induction room with
 | zero =>
  rintro ⟨k, n, s, kids⟩ h
  cases h1 : (k == 1) with
  | true =>
   obtain rfl : k = 1 := by simpa using h1
   rw [okT_num] at h
   simp only [Bool.and_eq_true, beq_iff_eq] at h
   have : kids = [] := List.eq_nil_of_length_eq_zero (by omega)
   subst this
   simp [nodes, nodess]
  | false =>
   cases h2 : (k == 2) with
   | true =>
    obtain rfl : k = 2 := by simpa using h2
    rw [okT_var] at h
    simp only [Bool.and_eq_true, beq_iff_eq] at h
    have : kids = [] := List.eq_nil_of_length_eq_zero (by omega)
    subst this
    simp [nodes, nodess]
   | false => rw [okT_zero h1 h2] at h; cases h
 | succ r ih =>
  rintro ⟨k, n, s, kids⟩ h
  have hp : 2 ≤ 2 ^ (r + 1) := by
   have := Nat.pow_le_pow_right (n := 2) (by decide) (show 1 ≤ r + 1 by omega)
   omega
  have hq : 2 ^ (r + 1 + 1) = 2 * 2 ^ (r + 1) := by rw [Nat.pow_succ, Nat.mul_comm]
  cases h1 : (k == 1) with
  | true =>
   obtain rfl : k = 1 := by simpa using h1
   rw [okT_num] at h
   simp only [Bool.and_eq_true, beq_iff_eq] at h
   have : kids = [] := List.eq_nil_of_length_eq_zero (by omega)
   subst this
   simp only [nodes, nodess]; omega
  | false =>
   cases h2 : (k == 2) with
   | true =>
    obtain rfl : k = 2 := by simpa using h2
    rw [okT_var] at h
    simp only [Bool.and_eq_true, beq_iff_eq] at h
    have : kids = [] := List.eq_nil_of_length_eq_zero (by omega)
    subst this
    simp only [nodes, nodess]; omega
   | false =>
    rw [okT_more h1 h2] at h
    simp only [Bool.and_eq_true, beq_iff_eq] at h
    have hl : kids.length ≤ 2 := by
     have := h.1.2
     unfold manyK at this
     split at this <;> omega
    have hs := nodess_all kids (2 ^ (r + 1)) fun t ht => ih t (List.all_eq_true.1 h.2 t ht)
    rw [nodes]
    have h3 : kids.length * 2 ^ (r + 1) ≤ 2 * 2 ^ (r + 1) := Nat.mul_le_mul_right _ hl
    rw [hq]
    generalize 2 ^ (r + 1) = M at *
    rcases (show kids.length = 0 ∨ kids.length = 1 ∨ kids.length = 2 by omega) with e | e | e
    all_goals
     rw [e] at hs; omega
theorem readsR_ok (t : Tm) : (readsR t).length ≤ 127 := by
 cases h : okT 6 t with
 | false => rw [readsR_no h]; simp
 | true =>
  have h1 := readsR_len t
  have h2 := nodes_ok 6 t h
  omega
theorem impl_ReadsOf_any (t : Tm) (k n : Int) (s : ByteArray) (A : Option Addr) (m c : Nat) (w : World) (ht : TmIs AnyB w [.int .i64 k, .int .i64 n, .string s, .slice A m c] t) :
  Calls Tryz.prog 60 #[.agg #[.int .i64 k, .int .i64 n, .string s, .slice A m c]] w fun e w' => ∃ v', e = .returned v' ∧ OwnStrs w w' v' (readsR t) := by
 cases h : okT 6 t with
 | true => exact impl_ReadsOf t k n s A m c w ht (by have := nodes_ok 6 t h; omega)
 | false =>
  have HT := qh ht
  clear ht
  rw [readsR_no h]
  go_enter Tryz.func60, Tryz.ntmps60
  go_wp2_with fail
  refine (impl_TermOk t k n s A m c _ (HT.out.belowA zB)).mono ?_
  rintro e w1 ⟨rfl, b1⟩
  have B1 : Hid (Below w.heap.size w w1) := qh (Below.trans zB (b1.mono (by simp)))
  rw [h]
  clear b1
  go_wp2_with fail
  go_ret
  exact ⟨_, rfl, OwnStrs.nil B1.out⟩
def cutW (base : Nat) (w : World) : World := { w with heap := w.heap.extract 0 base }
theorem cutW_size {base : Nat} {w : World} (h : base ≤ w.heap.size) : (cutW base w).heap.size = base := by simp [cutW]; omega
theorem cutW_below {base : Nat} {w : World} (h : base ≤ w.heap.size) : Below (cutW base w).heap.size (cutW base w) w := by
 refine ⟨rfl, rfl, rfl, ?_, fun k hk => ?_⟩
 ·rw [cutW_size h]; exact h
 ·rw [cutW_size h] at hk
  simp [cutW, Array.getElem?_extract]; omega
def OwnB (base : Nat) (w : World) (v : Value) (ss : List ByteArray) : Prop := w.ownsRow base 9 1 v ss.length (ss.map Value.string) ∧ base ≤ w.heap.size
theorem OwnB.strs {base : Nat} {w : World} {v : Value} {ss : List ByteArray} (h : OwnB base w v ss) : OwnStrs (cutW base w) w v ss := ⟨by rw [cutW_size h.2]; exact h.1, cutW_below h.2⟩
theorem OwnB.of {base : Nat} {w w' : World} {v : Value} {ss : List ByteArray} (hb : base ≤ w.heap.size) (h : OwnStrs (cutW base w) w' v ss) : OwnB base w' v ss := by
 have h1 := h.1
 have h2 := h.2.size
 rw [cutW_size hb] at h1 h2
 exact ⟨h1, h2⟩
theorem OwnB.of_strs {w0 w : World} {v : Value} {ss : List ByteArray} (h : OwnStrs w0 w v ss) : OwnB w0.heap.size w v ss := ⟨h.1, h.2.size⟩
theorem OwnB.keep {base : Nat} {w w' : World} {v : Value} {ss : List ByteArray} {S : Nat → Prop} (h : OwnB base w v ss) (hk : Keep S w w') (hv : ∀ b, v.ownBlock = some b → S b) : OwnB base w' v ss := by
 refine ⟨⟨h.1.1, ?_⟩, Nat.le_trans h.2 hk.size⟩
 rcases h.1.2 with h' | ⟨g, cap, cur, rfl, hg, hh, r⟩
 ·exact .inl h'
 ·exact .inr ⟨g, cap, cur, rfl, hg, (hk.block g (lt_of_block hh) (hv g rfl)).trans hh, r⟩
theorem OwnB.isStrs {base : Nat} {w : World} {v : Value} {ss : List ByteArray} (h : OwnB base w v ss) : IsStrs w v ss := h.strs.isStrs
theorem OwnB.ne {base : Nat} {w : World} {v : Value} {ss : List ByteArray} {b : Nat} (h : OwnB base w v ss) (hb : Sane 9 w b) : v.ownBlock ≠ some b := Own.neT h.strs hb
theorem OwnB.set {base : Nat} {w : World} {v : Value} {ss : List ByteArray} {b o : Nat} (h : OwnB base w v ss) (hb : Sane 9 w b) (u : Value) : OwnB base (w.setCell ⟨b, o, none⟩ u) v ss :=
 ⟨ownsRow_setCell_other h.1 (a := ⟨b, o, none⟩) (h.ne hb) u, by simpa using h.2⟩
theorem OwnB.alloc {base : Nat} {w : World} {v : Value} {ss : List ByteArray} (h : OwnB base w v ss) (o : Obj) : OwnB base (w.alloc o) v ss := ⟨h.1.alloc o, by have := h.2; simp; omega⟩
theorem OwnB.lt {base : Nat} {w : World} {v : Value} {ss : List ByteArray} (h : OwnB base w v ss) : ∀ b, v.ownBlock = some b → base ≤ b ∧ b < w.heap.size := fun b hb => h.1.lt b hb
structure OutAt (base go : Nat) (w : World) (v : Value) (acc : List ByteArray) : Prop where
 at' : w.heap[go]? = some (.cells #[v] 24 (0, 0))
 own : OwnB base w v acc
theorem OutAt.sane {base go : Nat} {w : World} {v : Value} {acc : List ByteArray} (h : OutAt base go w v acc) : Sane 9 w go := sane_of h.at' (by decide)
theorem OutAt.alloc {base go : Nat} {w : World} {v : Value} {acc : List ByteArray} (h : OutAt base go w v acc) (o : Obj) : OutAt base go (w.alloc o) v acc := ⟨(heap_alloc_lt (lt_of_block h.at')).trans h.at', h.own.alloc o⟩
theorem OutAt.keep {base go : Nat} {w w' : World} {v : Value} {acc : List ByteArray} (h : OutAt base go w v acc) (hb : Below w.heap.size w w') : OutAt base go w' v acc :=
 ⟨(hb.block go (lt_of_block h.at')).trans h.at', h.own.keep (S := fun _ => True) (Keep.of_below hb) (fun _ _ => trivial)⟩
structure GrewAt (go : Nat) (v v' : Value) (w w' : World) : Prop where
 keep : Keep (fun i => i ≠ go ∧ v.ownBlock ≠ some i) w w'
 lies : v'.ownBlock = v.ownBlock ∨ ∃ g, v'.ownBlock = some g ∧ w.heap.size ≤ g
theorem GrewAt.refl (go : Nat) (v : Value) (w : World) : GrewAt go v v w w := ⟨Keep.refl _ _, .inl rfl⟩
theorem GrewAt.of_below {go : Nat} {v : Value} {w w' : World} (h : Below w.heap.size w w') : GrewAt go v v w w' := ⟨Keep.of_below h, .inl rfl⟩
theorem GrewAt.trans {go : Nat} {u v x : Value} {a b c : World} (h : GrewAt go u v a b) (k : GrewAt go v x b c) : GrewAt go u x a c := by
 refine ⟨h.keep.trans k.keep (fun i hi hu => ⟨hu.1, fun e => ?_⟩), ?_⟩
 ·rcases h.lies with h1 | ⟨g, h1, h2⟩
  ·exact hu.2 (h1.symm.trans e)
  ·rw [h1] at e; injection e with e; omega
 ·rcases k.lies with k1 | ⟨g, k1, k2⟩
  ·rw [k1]; exact h.lies
  ·exact .inr ⟨g, k1, Nat.le_trans h.keep.size k2⟩
theorem impl_look (base go : Nat) (w : World) (lv v : Value) (known acc : List ByteArray) (x : ByteArray) (hlv : IsStrs w lv known) (ho : OutAt base go w v acc) (hb : acc.length ≤ 10000000) :
  Calls Tryz.prog 75 #[lv, .string x, .pointer (some ⟨go, 0, none⟩)] w fun e w' => e = .returned (.tuple #[]) ∧ ∃ v', OutAt base go w' v' (addUnk known acc x) ∧ GrewAt go v v' w w' := by
 have LV := qh hlv
 have HO := qh ho
 have c1 := cell_of_one ho.at'
 have f1 := free_of_one ho.at'
 obtain ⟨A, c, rfl, hl⟩ := ho.own.strs.slice
 clear hlv ho
 cases h : hasS known x with
 | true =>
  have HA := qh (addUnk_known (acc := acc) h)
  go_enter Tryz.func75, Tryz.ntmps75
  go_wp2_with fail
  refine (slices_Contains _ known x _ LV.out).mono ?_
  rintro e w1 ⟨rfl, rfl⟩
  rw [h]
  go_wp2_with fail
  refine bodyPost_end (results_none rfl _ _ _) rfl ?_
  exact ⟨rfl, _, by rw [HA.out]; exact HO.out, GrewAt.refl _ _ _⟩
 | false =>
  have HA := qh (addUnk_once (acc := acc) h)
  go_enter Tryz.func75, Tryz.ntmps75
  go_wp2_with fail
  refine (slices_Contains _ known x _ LV.out).mono ?_
  rintro e w1 ⟨rfl, rfl⟩
  rw [h]
  go_wp2_with fail
  refine (impl_addOnceG (cutW base w) _ _ acc x HO.out.own.strs hb).mono ?_
  rintro e w1 ⟨v1, rfl, own1, gr1⟩
  have B1 := qh (OwnB.of HO.out.own.2 own1)
  have G1 := qh gr1
  have a1 : w1.heap[go]? = some (.cells #[.slice A acc.length c] 24 (0, 0)) := (gr1.keep.block go (lt_of_block HO.out.at') (HO.out.own.ne HO.out.sane)).trans HO.out.at'
  have A1 := qh a1
  have c2 := cell_of_one a1
  have f2 := free_of_one a1
  obtain ⟨A2, c3, rfl, _⟩ := own1.slice
  clear own1 gr1 a1 c1 f1
  go_wp2_with fail
  refine bodyPost_end (results_none rfl _ _ _) rfl ?_
  refine ⟨rfl, _, ⟨one_setCell A1.out, by rw [HA.out]; exact B1.out.set (sane_of A1.out (by decide)) _⟩, ?_, G1.out.lies⟩
  exact (G1.out.keep.mono fun i _ hi => hi.2).setCell (p := ⟨go, 0, none⟩) (fun h => h.1 rfl) _
structure UnkEnv (W0 W1 : World) (p : Pg) (x : V3) (go gk gp gq : Nat) (qv : Value) (base : Nat) : Prop where
 hp : PgIs W0 x p
 b01 : Below W0.heap.size W0 W1
 go0 : W0.heap.size ≤ go
 gk1 : W1.cell? ⟨gk, 0, none⟩ = some (.func (.func 75) #[] #[.pointer (some ⟨go, 0, none⟩)])
 gp1 : BoxB W1 gp [.slice x.gA p.globals.length x.gc, .slice x.lA p.locks.length x.lc, .slice x.pA p.procs.length x.pc]
 gq1 : W1.cell? ⟨gq, 0, none⟩ = some qv
 q : OwnB base W1 qv (pnames p.procs)
 so : Sane 9 W1 go
 nk : gk ≠ go
 np : gp ≠ go
 nq : gq ≠ go
theorem UnkEnv.prog {W0 W1 w : World} {p : Pg} {x : V3} {go gk gp gq : Nat} {qv : Value} {base : Nat} (E : UnkEnv W0 W1 p x go gk gp gq qv base) (hk : Keep (fun i => i ≠ go) W1 w) : PgIs w x p :=
 E.hp.belowA (E.b01.trans (hk.below E.b01.size (fun b hb => by have := E.go0; omega)))
theorem UnkEnv.names {W0 W1 w : World} {p : Pg} {x : V3} {go gk gp gq : Nat} {qv : Value} {base : Nat} (E : UnkEnv W0 W1 p x go gk gp gq qv base) (hk : Keep (fun i => i ≠ go) W1 w) : OwnB base w qv (pnames p.procs) :=
 E.q.keep hk (fun b hb e => E.q.ne E.so (e ▸ hb))
def headG (gl lo pr acc : List ByteArray) : St → List ByteArray
 | .mk k s t _ _ => readK gl (headK gl lo pr k acc s) (readsR t)
theorem headG_len (gl lo pr acc : List ByteArray) (g : St) : (headG gl lo pr acc g).length ≤ acc.length + 128 := by
 obtain ⟨k, s, t, b, e⟩ := g
 have h1 := headK_len gl lo pr k acc s
 have h2 := readK_len gl (headK gl lo pr k acc s) (readsR t)
 have h3 := readsR_ok t
 show (readK gl (headK gl lo pr k acc s) (readsR t)).length ≤ _
 omega
set_option maxHeartbeats 6400000 in
set_option maxRecDepth 100000 in
theorem unk_step (W0 W1 : World) (p : Pg) (px : V3) (go gk gp gq : Nat) (qv : Value) (base : Nat) (E : UnkEnv W0 W1 p px go gk gp gq qv base) (acc : List ByteArray) (x : V8) (g : St) (w : World) (v : Value)
  (hbd : acc.length + 128 ≤ 10000000) (ho : OutAt W1.heap.size go w v acc) (hk : Keep (fun i => i ≠ go) W1 w) (hs : StIs (fun i => i ≠ go ∧ (i < W1.heap.size ∨ Sane 9 w i)) w x g) :
  Calls Tryz.prog 78 #[.agg #[.int .i64 x.k, .string x.s, .int .i64 x.tk, .int .i64 x.tn, .string x.ts, .slice x.tA x.tm x.tc, .slice x.bA x.bm x.bc, .slice x.eA x.em x.ec], .pointer (some ⟨gk, 0, none⟩), .pointer (some ⟨gp, 0, none⟩), .pointer (some ⟨gq, 0, none⟩)] w fun e w' =>
   e = .returned (.bool true) ∧ ∃ v', OutAt W1.heap.size go w' v' (headG p.globals p.locks (pnames p.procs) acc g) ∧ GrewAt go v v' w w' := by
 obtain ⟨t, body, els, rfl, hinv⟩ := hs.inv
 have ht := hinv.2.2.1
 clear hinv
 show Calls Tryz.prog 78 _ w fun e w' => e = .returned (.bool true) ∧ ∃ v', OutAt W1.heap.size go w' v' (readK p.globals (headK p.globals p.locks (pnames p.procs) x.k acc x.s) (readsR t)) ∧ GrewAt go v v' w w'
 obtain ⟨xk, xs, tk, tn, ts, tA, tm, tc, bA, bm, bc, eA, em, ec⟩ := x
 obtain ⟨gA, gc, lA, lc, pA, pc⟩ := px
 simp only [V8.term] at ht ⊢
 have P := qh (E.prog hk)
 have Q := qh (E.names hk)
 obtain ⟨Aq, cq, rfl, _⟩ := Q.out.strs.slice
 have C0 := hk.cellEq (p := ⟨gp, 0, none⟩) E.np (E.gp1 0 _ rfl)
 have C1 := hk.cellEq (p := ⟨gp, 1, none⟩) E.np (E.gp1 1 _ rfl)
 have C2 := hk.cellEq (p := ⟨gp, 2, none⟩) E.np (E.gp1 2 _ rfl)
 have CK := hk.cellEq (p := ⟨gk, 0, none⟩) E.nk E.gk1
 have CQ := hk.cellEq (p := ⟨gq, 0, none⟩) E.nq E.gq1
 have L0 := cell_lt C0
 have LK := cell_lt CK
 have LQ := cell_lt CQ
 simp only at C0 C1 C2 L0 LK LQ
 have z1 := hk.size
 have EE := qh E
 have TT := qh ht
 have HO := qh ho
 have HK := qh hk
 have HO0 : Hid (OutAt W1.heap.size go (w.alloc (.cells #[.int .i64 xk, .string xs, .int .i64 tk, .int .i64 tn, .string ts, .slice tA tm tc, .slice bA bm bc, .slice eA em ec] 71)) v acc) := qh (ho.alloc _)
 have BX : Hid (BoxB (w.alloc (.cells #[.int .i64 xk, .string xs, .int .i64 tk, .int .i64 tn, .string ts, .slice tA tm tc, .slice bA bm bc, .slice eA em ec] 71)) w.heap.size [.int .i64 xk, .string xs, .int .i64 tk, .int .i64 tn, .string ts, .slice tA tm tc, .slice bA bm bc, .slice eA em ec]) := qh (BoxB.lit rfl)
 have SB : Hid (Sane 9 (w.alloc (.cells #[.int .i64 xk, .string xs, .int .i64 tk, .int .i64 tn, .string ts, .slice tA tm tc, .slice bA bm bc, .slice eA em ec] 71)) w.heap.size) := qh (sane_new (by decide))
 have BW : Hid (Below w.heap.size w (w.alloc (.cells #[.int .i64 xk, .string xs, .int .i64 tk, .int .i64 tn, .string ts, .slice tA tm tc, .slice bA bm bc, .slice eA em ec] 71))) := qh (Below.alloc (Below.refl _ _) (Nat.le_refl _) _)
 have lg := lt_of_block ho.at'
 have FK : Hid (∀ i, (i ≠ go ∧ (i < W1.heap.size ∨ Sane 9 w i)) → i ≠ go ∧ v.ownBlock ≠ some i) := qh (fun i hi => ⟨hi.1, fun e => by
  rcases hi.2 with h | h
  ·have := (ho.own.lt i e).1; omega
  ·exact ho.own.ne h e⟩)
 have hrl := readsR_ok t
 clear ht ho hk E hs
 rcases kind_cases xk with rfl | rfl | rfl | rfl | rfl | rfl | rfl | ⟨e1, e6, e7, e4, e5, e2, e3⟩
 ·skip
  go_enter Tryz.func78, Tryz.ntmps78
  go_wp2_with fail
  refine (impl_look W1.heap.size go _ _ v p.globals acc xs ((P.out.belowA BW.out).gs) HO0.out (by omega)).mono ?_
  rintro e w1 ⟨rfl, v1, o1, g1⟩
  have O1 := qh o1
  have G1 := qh ((GrewAt.of_below BW.out).trans g1)
  have B1 := qh (BX.out.keepS g1.keep ⟨by omega, HO0.out.own.ne SB.out⟩)
  have K1 := qh (g1.keep.mono (S' := fun i => i ≠ go ∧ Sane 9 (w.alloc (.cells #[.int .i64 1, .string xs, .int .i64 tk, .int .i64 tn, .string ts, .slice tA tm tc, .slice bA bm bc, .slice eA em ec] 71)) i) (fun i hi hS => ⟨hS.1, HO0.out.own.ne hS.2⟩))
  have HM1 : Hid (headK p.globals p.locks (pnames p.procs) 1 acc xs = addUnk p.globals acc xs) := qh (by simp [headK])
  have hml : (addUnk p.globals acc xs).length ≤ acc.length + 1 := addUnk_len _ _ _
  have W2 := qh (HK.out.trans ((Keep.of_below BW.out).trans g1.keep (S := fun i => i ≠ go ∧ v.ownBlock ≠ some i) (fun _ _ h => h)) (fun i hi h => ⟨h, fun e => by have := (HO0.out.own.lt i e).1; omega⟩))
  have C0 := W2.out.cellEq (p := ⟨gp, 0, none⟩) EE.out.np (EE.out.gp1 0 _ rfl)
  have CK := W2.out.cellEq (p := ⟨gk, 0, none⟩) EE.out.nk EE.out.gk1
  have WT : Hid (TmIs AnyB w1 [.int .i64 tk, .int .i64 tn, .string ts, .slice tA tm tc] t) := qh (TT.out.keep (fun q hq hF => G1.out.keep.cell hq (FK.out _ hF)) (fun _ _ _ => trivial))
  have hz1 := K1.out.size
  have q2 := B1.out 2 _ rfl
  have q3 := B1.out 3 _ rfl
  have q4 := B1.out 4 _ rfl
  have q5 := B1.out 5 _ rfl
  clear o1 g1 C1 C2 CQ BX SB HO0
  go_wp2_with fail
  refine (impl_ReadsOf_any t tk tn ts tA tm tc _ (WT.out)).mono ?_
  rintro e w2 ⟨vr, rfl, ownr⟩
  have hr2 := ownr.2
  have RR := qh (OwnB.of_strs ownr)
  have NE : Hid (∀ b, vr.ownBlock = some b → b ≠ go ∧ v1.ownBlock ≠ some b) := qh (fun b hb => ⟨fun e => by have h1 := (ownr.inB b hb).1; have h2 := lt_of_block O1.out.at'; omega, fun e => by have h1 := (ownr.inB b hb).1; have h2 := (O1.out.own.lt b e).2; omega⟩)
  have O2 := qh (O1.out.keep hr2)
  have G2 := qh (G1.out.trans (GrewAt.of_below hr2))
  have W3 := qh (W2.out.trans (Keep.of_below (S := fun _ => True) hr2) (fun _ _ _ => trivial))
  obtain ⟨Ar, cr, rfl, _⟩ := ownr.slice
  have hcr := own_cap' ownr
  unfold maxLen at hcr
  generalize hRR : readsR t = R at *
  have HR := qh hRR
  clear hr2 ownr B1 K1 q2 q3 q4 q5 C0 CK hRR O1 G1 W2
  go_wp2_with fail
  go_loopw [7, 39] (fun nm i wi => ∃ m : Nat, m ≤ R.length ∧ i = .int .i64 m ∧ Hid (∃ vi, OutAt W1.heap.size go wi vi (readK p.globals (addUnk p.globals acc xs) (R.take m)) ∧ GrewAt go v1 vi w2 wi)) (fun _ i _ => R.length - (intOf i).toNat)
  case atStart => exact ⟨0, Nat.zero_le _, rfl, qh ⟨_, O2.out, GrewAt.refl _ _ _⟩⟩
  case round =>
   obtain ⟨m, hm, rfl, HI⟩ := hrel
   obtain ⟨vi, oi, gi⟩ := HI.out
   have OI := qh oi
   have GI := qh gi
   have hrk := readK_len p.globals (addUnk p.globals acc xs) (R.take m)
   have hrt : (R.take m).length ≤ R.length := by rw [List.length_take]; omega
   have WI := qh (W3.out.trans gi.keep (fun i hi h => ⟨h, fun e => by have := (O2.out.own.lt i e).1; omega⟩))
   clear oi gi
   by_cases hlt2 : m < R.length
   ·obtain ⟨rb, ro, rfl, hcell⟩ := rd_str (Own.rd (RR.out.keep GI.out.keep NE.out).strs) hlt2
    have HT := qh (readK_take p.globals (addUnk p.globals acc xs) R m hlt2)
    have C0 := WI.out.cellEq (p := ⟨gp, 0, none⟩) EE.out.np (EE.out.gp1 0 _ rfl)
    have CK := WI.out.cellEq (p := ⟨gk, 0, none⟩) EE.out.nk EE.out.gk1
    have h0m : (0 : Int) ≤ (m : Int) := by omega
    have h1m : (m : Int) < (R.length : Int) := by omega
    simp only at C0 CK
    go_wp2_with fail
    refine (impl_look W1.heap.size go _ _ vi p.globals (readK p.globals (addUnk p.globals acc xs) (R.take m)) R[m] ((EE.out.prog WI.out).gs) OI.out (by omega)).mono ?_
    rintro e w6 ⟨rfl, v6, o6, g6⟩
    have O6 : Hid (∃ vi, OutAt W1.heap.size go w6 vi (readK p.globals (addUnk p.globals acc xs) (R.take (m + 1))) ∧ GrewAt go v1 vi w2 w6) := qh ⟨v6, by rw [HT.out]; exact o6, GI.out.trans g6⟩
    clear o6 g6 C0 CK hcell
    go_wp2_with fail
    go_roundw
    case rel => exact ⟨m + 1, by omega, by go_num, O6⟩
    case measure => simp [intOf]; omega
   ·have TK : Hid (R.take m = R) := qh (List.take_of_length_le (by omega))
    go_wp2_with fail
    go_ret
    refine ⟨rfl, vi, ?_, G2.out.trans GI.out⟩
    rw [HM1.out, HR.out]
    have := OI.out
    rw [TK.out] at this
    exact this
 ·skip
  go_enter Tryz.func78, Tryz.ntmps78
  go_wp2_with fail
  refine (impl_look W1.heap.size go _ _ v p.locks acc xs ((P.out.belowA BW.out).ls) HO0.out (by omega)).mono ?_
  rintro e w1 ⟨rfl, v1, o1, g1⟩
  have O1 := qh o1
  have G1 := qh ((GrewAt.of_below BW.out).trans g1)
  have B1 := qh (BX.out.keepS g1.keep ⟨by omega, HO0.out.own.ne SB.out⟩)
  have K1 := qh (g1.keep.mono (S' := fun i => i ≠ go ∧ Sane 9 (w.alloc (.cells #[.int .i64 6, .string xs, .int .i64 tk, .int .i64 tn, .string ts, .slice tA tm tc, .slice bA bm bc, .slice eA em ec] 71)) i) (fun i hi hS => ⟨hS.1, HO0.out.own.ne hS.2⟩))
  have HM1 : Hid (headK p.globals p.locks (pnames p.procs) 6 acc xs = addUnk p.locks acc xs) := qh (by simp [headK])
  have hml : (addUnk p.locks acc xs).length ≤ acc.length + 1 := addUnk_len _ _ _
  have W2 := qh (HK.out.trans ((Keep.of_below BW.out).trans g1.keep (S := fun i => i ≠ go ∧ v.ownBlock ≠ some i) (fun _ _ h => h)) (fun i hi h => ⟨h, fun e => by have := (HO0.out.own.lt i e).1; omega⟩))
  have C0 := W2.out.cellEq (p := ⟨gp, 0, none⟩) EE.out.np (EE.out.gp1 0 _ rfl)
  have CK := W2.out.cellEq (p := ⟨gk, 0, none⟩) EE.out.nk EE.out.gk1
  have WT : Hid (TmIs AnyB w1 [.int .i64 tk, .int .i64 tn, .string ts, .slice tA tm tc] t) := qh (TT.out.keep (fun q hq hF => G1.out.keep.cell hq (FK.out _ hF)) (fun _ _ _ => trivial))
  have hz1 := K1.out.size
  have q2 := B1.out 2 _ rfl
  have q3 := B1.out 3 _ rfl
  have q4 := B1.out 4 _ rfl
  have q5 := B1.out 5 _ rfl
  clear o1 g1 C1 C2 CQ BX SB HO0
  go_wp2_with fail
  refine (impl_ReadsOf_any t tk tn ts tA tm tc _ (WT.out)).mono ?_
  rintro e w2 ⟨vr, rfl, ownr⟩
  have hr2 := ownr.2
  have RR := qh (OwnB.of_strs ownr)
  have NE : Hid (∀ b, vr.ownBlock = some b → b ≠ go ∧ v1.ownBlock ≠ some b) := qh (fun b hb => ⟨fun e => by have h1 := (ownr.inB b hb).1; have h2 := lt_of_block O1.out.at'; omega, fun e => by have h1 := (ownr.inB b hb).1; have h2 := (O1.out.own.lt b e).2; omega⟩)
  have O2 := qh (O1.out.keep hr2)
  have G2 := qh (G1.out.trans (GrewAt.of_below hr2))
  have W3 := qh (W2.out.trans (Keep.of_below (S := fun _ => True) hr2) (fun _ _ _ => trivial))
  obtain ⟨Ar, cr, rfl, _⟩ := ownr.slice
  have hcr := own_cap' ownr
  unfold maxLen at hcr
  generalize hRR : readsR t = R at *
  have HR := qh hRR
  clear hr2 ownr B1 K1 q2 q3 q4 q5 C0 CK hRR O1 G1 W2
  go_wp2_with fail
  go_loopw [7, 39] (fun nm i wi => ∃ m : Nat, m ≤ R.length ∧ i = .int .i64 m ∧ Hid (∃ vi, OutAt W1.heap.size go wi vi (readK p.globals (addUnk p.locks acc xs) (R.take m)) ∧ GrewAt go v1 vi w2 wi)) (fun _ i _ => R.length - (intOf i).toNat)
  case atStart => exact ⟨0, Nat.zero_le _, rfl, qh ⟨_, O2.out, GrewAt.refl _ _ _⟩⟩
  case round =>
   obtain ⟨m, hm, rfl, HI⟩ := hrel
   obtain ⟨vi, oi, gi⟩ := HI.out
   have OI := qh oi
   have GI := qh gi
   have hrk := readK_len p.globals (addUnk p.locks acc xs) (R.take m)
   have hrt : (R.take m).length ≤ R.length := by rw [List.length_take]; omega
   have WI := qh (W3.out.trans gi.keep (fun i hi h => ⟨h, fun e => by have := (O2.out.own.lt i e).1; omega⟩))
   clear oi gi
   by_cases hlt2 : m < R.length
   ·obtain ⟨rb, ro, rfl, hcell⟩ := rd_str (Own.rd (RR.out.keep GI.out.keep NE.out).strs) hlt2
    have HT := qh (readK_take p.globals (addUnk p.locks acc xs) R m hlt2)
    have C0 := WI.out.cellEq (p := ⟨gp, 0, none⟩) EE.out.np (EE.out.gp1 0 _ rfl)
    have CK := WI.out.cellEq (p := ⟨gk, 0, none⟩) EE.out.nk EE.out.gk1
    have h0m : (0 : Int) ≤ (m : Int) := by omega
    have h1m : (m : Int) < (R.length : Int) := by omega
    simp only at C0 CK
    go_wp2_with fail
    refine (impl_look W1.heap.size go _ _ vi p.globals (readK p.globals (addUnk p.locks acc xs) (R.take m)) R[m] ((EE.out.prog WI.out).gs) OI.out (by omega)).mono ?_
    rintro e w6 ⟨rfl, v6, o6, g6⟩
    have O6 : Hid (∃ vi, OutAt W1.heap.size go w6 vi (readK p.globals (addUnk p.locks acc xs) (R.take (m + 1))) ∧ GrewAt go v1 vi w2 w6) := qh ⟨v6, by rw [HT.out]; exact o6, GI.out.trans g6⟩
    clear o6 g6 C0 CK hcell
    go_wp2_with fail
    go_roundw
    case rel => exact ⟨m + 1, by omega, by go_num, O6⟩
    case measure => simp [intOf]; omega
   ·have TK : Hid (R.take m = R) := qh (List.take_of_length_le (by omega))
    go_wp2_with fail
    go_ret
    refine ⟨rfl, vi, ?_, G2.out.trans GI.out⟩
    rw [HM1.out, HR.out]
    have := OI.out
    rw [TK.out] at this
    exact this
 ·skip
  go_enter Tryz.func78, Tryz.ntmps78
  go_wp2_with fail
  refine (impl_look W1.heap.size go _ _ v p.locks acc xs ((P.out.belowA BW.out).ls) HO0.out (by omega)).mono ?_
  rintro e w1 ⟨rfl, v1, o1, g1⟩
  have O1 := qh o1
  have G1 := qh ((GrewAt.of_below BW.out).trans g1)
  have B1 := qh (BX.out.keepS g1.keep ⟨by omega, HO0.out.own.ne SB.out⟩)
  have K1 := qh (g1.keep.mono (S' := fun i => i ≠ go ∧ Sane 9 (w.alloc (.cells #[.int .i64 7, .string xs, .int .i64 tk, .int .i64 tn, .string ts, .slice tA tm tc, .slice bA bm bc, .slice eA em ec] 71)) i) (fun i hi hS => ⟨hS.1, HO0.out.own.ne hS.2⟩))
  have HM1 : Hid (headK p.globals p.locks (pnames p.procs) 7 acc xs = addUnk p.locks acc xs) := qh (by simp [headK])
  have hml : (addUnk p.locks acc xs).length ≤ acc.length + 1 := addUnk_len _ _ _
  have W2 := qh (HK.out.trans ((Keep.of_below BW.out).trans g1.keep (S := fun i => i ≠ go ∧ v.ownBlock ≠ some i) (fun _ _ h => h)) (fun i hi h => ⟨h, fun e => by have := (HO0.out.own.lt i e).1; omega⟩))
  have C0 := W2.out.cellEq (p := ⟨gp, 0, none⟩) EE.out.np (EE.out.gp1 0 _ rfl)
  have CK := W2.out.cellEq (p := ⟨gk, 0, none⟩) EE.out.nk EE.out.gk1
  have WT : Hid (TmIs AnyB w1 [.int .i64 tk, .int .i64 tn, .string ts, .slice tA tm tc] t) := qh (TT.out.keep (fun q hq hF => G1.out.keep.cell hq (FK.out _ hF)) (fun _ _ _ => trivial))
  have hz1 := K1.out.size
  have q2 := B1.out 2 _ rfl
  have q3 := B1.out 3 _ rfl
  have q4 := B1.out 4 _ rfl
  have q5 := B1.out 5 _ rfl
  clear o1 g1 C1 C2 CQ BX SB HO0
  go_wp2_with fail
  refine (impl_ReadsOf_any t tk tn ts tA tm tc _ (WT.out)).mono ?_
  rintro e w2 ⟨vr, rfl, ownr⟩
  have hr2 := ownr.2
  have RR := qh (OwnB.of_strs ownr)
  have NE : Hid (∀ b, vr.ownBlock = some b → b ≠ go ∧ v1.ownBlock ≠ some b) := qh (fun b hb => ⟨fun e => by have h1 := (ownr.inB b hb).1; have h2 := lt_of_block O1.out.at'; omega, fun e => by have h1 := (ownr.inB b hb).1; have h2 := (O1.out.own.lt b e).2; omega⟩)
  have O2 := qh (O1.out.keep hr2)
  have G2 := qh (G1.out.trans (GrewAt.of_below hr2))
  have W3 := qh (W2.out.trans (Keep.of_below (S := fun _ => True) hr2) (fun _ _ _ => trivial))
  obtain ⟨Ar, cr, rfl, _⟩ := ownr.slice
  have hcr := own_cap' ownr
  unfold maxLen at hcr
  generalize hRR : readsR t = R at *
  have HR := qh hRR
  clear hr2 ownr B1 K1 q2 q3 q4 q5 C0 CK hRR O1 G1 W2
  go_wp2_with fail
  go_loopw [7, 39] (fun nm i wi => ∃ m : Nat, m ≤ R.length ∧ i = .int .i64 m ∧ Hid (∃ vi, OutAt W1.heap.size go wi vi (readK p.globals (addUnk p.locks acc xs) (R.take m)) ∧ GrewAt go v1 vi w2 wi)) (fun _ i _ => R.length - (intOf i).toNat)
  case atStart => exact ⟨0, Nat.zero_le _, rfl, qh ⟨_, O2.out, GrewAt.refl _ _ _⟩⟩
  case round =>
   obtain ⟨m, hm, rfl, HI⟩ := hrel
   obtain ⟨vi, oi, gi⟩ := HI.out
   have OI := qh oi
   have GI := qh gi
   have hrk := readK_len p.globals (addUnk p.locks acc xs) (R.take m)
   have hrt : (R.take m).length ≤ R.length := by rw [List.length_take]; omega
   have WI := qh (W3.out.trans gi.keep (fun i hi h => ⟨h, fun e => by have := (O2.out.own.lt i e).1; omega⟩))
   clear oi gi
   by_cases hlt2 : m < R.length
   ·obtain ⟨rb, ro, rfl, hcell⟩ := rd_str (Own.rd (RR.out.keep GI.out.keep NE.out).strs) hlt2
    have HT := qh (readK_take p.globals (addUnk p.locks acc xs) R m hlt2)
    have C0 := WI.out.cellEq (p := ⟨gp, 0, none⟩) EE.out.np (EE.out.gp1 0 _ rfl)
    have CK := WI.out.cellEq (p := ⟨gk, 0, none⟩) EE.out.nk EE.out.gk1
    have h0m : (0 : Int) ≤ (m : Int) := by omega
    have h1m : (m : Int) < (R.length : Int) := by omega
    simp only at C0 CK
    go_wp2_with fail
    refine (impl_look W1.heap.size go _ _ vi p.globals (readK p.globals (addUnk p.locks acc xs) (R.take m)) R[m] ((EE.out.prog WI.out).gs) OI.out (by omega)).mono ?_
    rintro e w6 ⟨rfl, v6, o6, g6⟩
    have O6 : Hid (∃ vi, OutAt W1.heap.size go w6 vi (readK p.globals (addUnk p.locks acc xs) (R.take (m + 1))) ∧ GrewAt go v1 vi w2 w6) := qh ⟨v6, by rw [HT.out]; exact o6, GI.out.trans g6⟩
    clear o6 g6 C0 CK hcell
    go_wp2_with fail
    go_roundw
    case rel => exact ⟨m + 1, by omega, by go_num, O6⟩
    case measure => simp [intOf]; omega
   ·have TK : Hid (R.take m = R) := qh (List.take_of_length_le (by omega))
    go_wp2_with fail
    go_ret
    refine ⟨rfl, vi, ?_, G2.out.trans GI.out⟩
    rw [HM1.out, HR.out]
    have := OI.out
    rw [TK.out] at this
    exact this
 ·skip
  go_enter Tryz.func78, Tryz.ntmps78
  go_wp2_with fail
  refine (impl_look W1.heap.size go _ _ v (pnames p.procs) acc xs (Q.out.isStrs.below BW.out) HO0.out (by omega)).mono ?_
  rintro e w1 ⟨rfl, v1, o1, g1⟩
  have O1 := qh o1
  have G1 := qh ((GrewAt.of_below BW.out).trans g1)
  have B1 := qh (BX.out.keepS g1.keep ⟨by omega, HO0.out.own.ne SB.out⟩)
  have K1 := qh (g1.keep.mono (S' := fun i => i ≠ go ∧ Sane 9 (w.alloc (.cells #[.int .i64 4, .string xs, .int .i64 tk, .int .i64 tn, .string ts, .slice tA tm tc, .slice bA bm bc, .slice eA em ec] 71)) i) (fun i hi hS => ⟨hS.1, HO0.out.own.ne hS.2⟩))
  have HM1 : Hid (headK p.globals p.locks (pnames p.procs) 4 acc xs = addUnk (pnames p.procs) acc xs) := qh (by simp [headK])
  have hml : (addUnk (pnames p.procs) acc xs).length ≤ acc.length + 1 := addUnk_len _ _ _
  have W2 := qh (HK.out.trans ((Keep.of_below BW.out).trans g1.keep (S := fun i => i ≠ go ∧ v.ownBlock ≠ some i) (fun _ _ h => h)) (fun i hi h => ⟨h, fun e => by have := (HO0.out.own.lt i e).1; omega⟩))
  have C0 := W2.out.cellEq (p := ⟨gp, 0, none⟩) EE.out.np (EE.out.gp1 0 _ rfl)
  have CK := W2.out.cellEq (p := ⟨gk, 0, none⟩) EE.out.nk EE.out.gk1
  have WT : Hid (TmIs AnyB w1 [.int .i64 tk, .int .i64 tn, .string ts, .slice tA tm tc] t) := qh (TT.out.keep (fun q hq hF => G1.out.keep.cell hq (FK.out _ hF)) (fun _ _ _ => trivial))
  have hz1 := K1.out.size
  have q2 := B1.out 2 _ rfl
  have q3 := B1.out 3 _ rfl
  have q4 := B1.out 4 _ rfl
  have q5 := B1.out 5 _ rfl
  clear o1 g1 C1 C2 CQ BX SB HO0
  go_wp2_with fail
  refine (impl_ReadsOf_any t tk tn ts tA tm tc _ (WT.out)).mono ?_
  rintro e w2 ⟨vr, rfl, ownr⟩
  have hr2 := ownr.2
  have RR := qh (OwnB.of_strs ownr)
  have NE : Hid (∀ b, vr.ownBlock = some b → b ≠ go ∧ v1.ownBlock ≠ some b) := qh (fun b hb => ⟨fun e => by have h1 := (ownr.inB b hb).1; have h2 := lt_of_block O1.out.at'; omega, fun e => by have h1 := (ownr.inB b hb).1; have h2 := (O1.out.own.lt b e).2; omega⟩)
  have O2 := qh (O1.out.keep hr2)
  have G2 := qh (G1.out.trans (GrewAt.of_below hr2))
  have W3 := qh (W2.out.trans (Keep.of_below (S := fun _ => True) hr2) (fun _ _ _ => trivial))
  obtain ⟨Ar, cr, rfl, _⟩ := ownr.slice
  have hcr := own_cap' ownr
  unfold maxLen at hcr
  generalize hRR : readsR t = R at *
  have HR := qh hRR
  clear hr2 ownr B1 K1 q2 q3 q4 q5 C0 CK hRR O1 G1 W2
  go_wp2_with fail
  go_loopw [7, 39] (fun nm i wi => ∃ m : Nat, m ≤ R.length ∧ i = .int .i64 m ∧ Hid (∃ vi, OutAt W1.heap.size go wi vi (readK p.globals (addUnk (pnames p.procs) acc xs) (R.take m)) ∧ GrewAt go v1 vi w2 wi)) (fun _ i _ => R.length - (intOf i).toNat)
  case atStart => exact ⟨0, Nat.zero_le _, rfl, qh ⟨_, O2.out, GrewAt.refl _ _ _⟩⟩
  case round =>
   obtain ⟨m, hm, rfl, HI⟩ := hrel
   obtain ⟨vi, oi, gi⟩ := HI.out
   have OI := qh oi
   have GI := qh gi
   have hrk := readK_len p.globals (addUnk (pnames p.procs) acc xs) (R.take m)
   have hrt : (R.take m).length ≤ R.length := by rw [List.length_take]; omega
   have WI := qh (W3.out.trans gi.keep (fun i hi h => ⟨h, fun e => by have := (O2.out.own.lt i e).1; omega⟩))
   clear oi gi
   by_cases hlt2 : m < R.length
   ·obtain ⟨rb, ro, rfl, hcell⟩ := rd_str (Own.rd (RR.out.keep GI.out.keep NE.out).strs) hlt2
    have HT := qh (readK_take p.globals (addUnk (pnames p.procs) acc xs) R m hlt2)
    have C0 := WI.out.cellEq (p := ⟨gp, 0, none⟩) EE.out.np (EE.out.gp1 0 _ rfl)
    have CK := WI.out.cellEq (p := ⟨gk, 0, none⟩) EE.out.nk EE.out.gk1
    have h0m : (0 : Int) ≤ (m : Int) := by omega
    have h1m : (m : Int) < (R.length : Int) := by omega
    simp only at C0 CK
    go_wp2_with fail
    refine (impl_look W1.heap.size go _ _ vi p.globals (readK p.globals (addUnk (pnames p.procs) acc xs) (R.take m)) R[m] ((EE.out.prog WI.out).gs) OI.out (by omega)).mono ?_
    rintro e w6 ⟨rfl, v6, o6, g6⟩
    have O6 : Hid (∃ vi, OutAt W1.heap.size go w6 vi (readK p.globals (addUnk (pnames p.procs) acc xs) (R.take (m + 1))) ∧ GrewAt go v1 vi w2 w6) := qh ⟨v6, by rw [HT.out]; exact o6, GI.out.trans g6⟩
    clear o6 g6 C0 CK hcell
    go_wp2_with fail
    go_roundw
    case rel => exact ⟨m + 1, by omega, by go_num, O6⟩
    case measure => simp [intOf]; omega
   ·have TK : Hid (R.take m = R) := qh (List.take_of_length_le (by omega))
    go_wp2_with fail
    go_ret
    refine ⟨rfl, vi, ?_, G2.out.trans GI.out⟩
    rw [HM1.out, HR.out]
    have := OI.out
    rw [TK.out] at this
    exact this
 ·skip
  go_enter Tryz.func78, Tryz.ntmps78
  go_wp2_with fail
  refine (impl_look W1.heap.size go _ _ v (pnames p.procs) acc xs (Q.out.isStrs.below BW.out) HO0.out (by omega)).mono ?_
  rintro e w1 ⟨rfl, v1, o1, g1⟩
  have O1 := qh o1
  have G1 := qh ((GrewAt.of_below BW.out).trans g1)
  have B1 := qh (BX.out.keepS g1.keep ⟨by omega, HO0.out.own.ne SB.out⟩)
  have K1 := qh (g1.keep.mono (S' := fun i => i ≠ go ∧ Sane 9 (w.alloc (.cells #[.int .i64 5, .string xs, .int .i64 tk, .int .i64 tn, .string ts, .slice tA tm tc, .slice bA bm bc, .slice eA em ec] 71)) i) (fun i hi hS => ⟨hS.1, HO0.out.own.ne hS.2⟩))
  have HM1 : Hid (headK p.globals p.locks (pnames p.procs) 5 acc xs = addUnk (pnames p.procs) acc xs) := qh (by simp [headK])
  have hml : (addUnk (pnames p.procs) acc xs).length ≤ acc.length + 1 := addUnk_len _ _ _
  have W2 := qh (HK.out.trans ((Keep.of_below BW.out).trans g1.keep (S := fun i => i ≠ go ∧ v.ownBlock ≠ some i) (fun _ _ h => h)) (fun i hi h => ⟨h, fun e => by have := (HO0.out.own.lt i e).1; omega⟩))
  have C0 := W2.out.cellEq (p := ⟨gp, 0, none⟩) EE.out.np (EE.out.gp1 0 _ rfl)
  have CK := W2.out.cellEq (p := ⟨gk, 0, none⟩) EE.out.nk EE.out.gk1
  have WT : Hid (TmIs AnyB w1 [.int .i64 tk, .int .i64 tn, .string ts, .slice tA tm tc] t) := qh (TT.out.keep (fun q hq hF => G1.out.keep.cell hq (FK.out _ hF)) (fun _ _ _ => trivial))
  have hz1 := K1.out.size
  have q2 := B1.out 2 _ rfl
  have q3 := B1.out 3 _ rfl
  have q4 := B1.out 4 _ rfl
  have q5 := B1.out 5 _ rfl
  clear o1 g1 C1 C2 CQ BX SB HO0
  go_wp2_with fail
  refine (impl_ReadsOf_any t tk tn ts tA tm tc _ (WT.out)).mono ?_
  rintro e w2 ⟨vr, rfl, ownr⟩
  have hr2 := ownr.2
  have RR := qh (OwnB.of_strs ownr)
  have NE : Hid (∀ b, vr.ownBlock = some b → b ≠ go ∧ v1.ownBlock ≠ some b) := qh (fun b hb => ⟨fun e => by have h1 := (ownr.inB b hb).1; have h2 := lt_of_block O1.out.at'; omega, fun e => by have h1 := (ownr.inB b hb).1; have h2 := (O1.out.own.lt b e).2; omega⟩)
  have O2 := qh (O1.out.keep hr2)
  have G2 := qh (G1.out.trans (GrewAt.of_below hr2))
  have W3 := qh (W2.out.trans (Keep.of_below (S := fun _ => True) hr2) (fun _ _ _ => trivial))
  obtain ⟨Ar, cr, rfl, _⟩ := ownr.slice
  have hcr := own_cap' ownr
  unfold maxLen at hcr
  generalize hRR : readsR t = R at *
  have HR := qh hRR
  clear hr2 ownr B1 K1 q2 q3 q4 q5 C0 CK hRR O1 G1 W2
  go_wp2_with fail
  go_loopw [7, 39] (fun nm i wi => ∃ m : Nat, m ≤ R.length ∧ i = .int .i64 m ∧ Hid (∃ vi, OutAt W1.heap.size go wi vi (readK p.globals (addUnk (pnames p.procs) acc xs) (R.take m)) ∧ GrewAt go v1 vi w2 wi)) (fun _ i _ => R.length - (intOf i).toNat)
  case atStart => exact ⟨0, Nat.zero_le _, rfl, qh ⟨_, O2.out, GrewAt.refl _ _ _⟩⟩
  case round =>
   obtain ⟨m, hm, rfl, HI⟩ := hrel
   obtain ⟨vi, oi, gi⟩ := HI.out
   have OI := qh oi
   have GI := qh gi
   have hrk := readK_len p.globals (addUnk (pnames p.procs) acc xs) (R.take m)
   have hrt : (R.take m).length ≤ R.length := by rw [List.length_take]; omega
   have WI := qh (W3.out.trans gi.keep (fun i hi h => ⟨h, fun e => by have := (O2.out.own.lt i e).1; omega⟩))
   clear oi gi
   by_cases hlt2 : m < R.length
   ·obtain ⟨rb, ro, rfl, hcell⟩ := rd_str (Own.rd (RR.out.keep GI.out.keep NE.out).strs) hlt2
    have HT := qh (readK_take p.globals (addUnk (pnames p.procs) acc xs) R m hlt2)
    have C0 := WI.out.cellEq (p := ⟨gp, 0, none⟩) EE.out.np (EE.out.gp1 0 _ rfl)
    have CK := WI.out.cellEq (p := ⟨gk, 0, none⟩) EE.out.nk EE.out.gk1
    have h0m : (0 : Int) ≤ (m : Int) := by omega
    have h1m : (m : Int) < (R.length : Int) := by omega
    simp only at C0 CK
    go_wp2_with fail
    refine (impl_look W1.heap.size go _ _ vi p.globals (readK p.globals (addUnk (pnames p.procs) acc xs) (R.take m)) R[m] ((EE.out.prog WI.out).gs) OI.out (by omega)).mono ?_
    rintro e w6 ⟨rfl, v6, o6, g6⟩
    have O6 : Hid (∃ vi, OutAt W1.heap.size go w6 vi (readK p.globals (addUnk (pnames p.procs) acc xs) (R.take (m + 1))) ∧ GrewAt go v1 vi w2 w6) := qh ⟨v6, by rw [HT.out]; exact o6, GI.out.trans g6⟩
    clear o6 g6 C0 CK hcell
    go_wp2_with fail
    go_roundw
    case rel => exact ⟨m + 1, by omega, by go_num, O6⟩
    case measure => simp [intOf]; omega
   ·have TK : Hid (R.take m = R) := qh (List.take_of_length_le (by omega))
    go_wp2_with fail
    go_ret
    refine ⟨rfl, vi, ?_, G2.out.trans GI.out⟩
    rw [HM1.out, HR.out]
    have := OI.out
    rw [TK.out] at this
    exact this
 ·skip
  go_enter Tryz.func78, Tryz.ntmps78
  have HM1 : Hid (headK p.globals p.locks (pnames p.procs) 2 acc xs = acc) := qh (by simp [headK])
  have O1 := HO0
  have W2 := qh (HK.out.trans (Keep.of_below (S := fun _ => True) BW.out) (fun _ _ _ => trivial))
  have G1 : Hid (GrewAt go v v w _) := qh (GrewAt.of_below BW.out)
  have hz1 := BW.out.size
  clear HO0 C1 C2 CQ BX SB
  go_wp2_with fail
  refine (impl_ReadsOf_any t tk tn ts tA tm tc _ (TT.out.any.belowA BW.out)).mono ?_
  rintro e w2 ⟨vr, rfl, ownr⟩
  have hr2 := ownr.2
  have RR := qh (OwnB.of_strs ownr)
  have NE : Hid (∀ b, vr.ownBlock = some b → b ≠ go ∧ v.ownBlock ≠ some b) := qh (fun b hb => ⟨fun e => by have h1 := (ownr.inB b hb).1; have h2 := lt_of_block O1.out.at'; omega, fun e => by have h1 := (ownr.inB b hb).1; have h2 := (O1.out.own.lt b e).2; omega⟩)
  have O2 := qh (O1.out.keep hr2)
  have G2 := qh (G1.out.trans (GrewAt.of_below hr2))
  have W3 := qh (W2.out.trans (Keep.of_below (S := fun _ => True) hr2) (fun _ _ _ => trivial))
  obtain ⟨Ar, cr, rfl, _⟩ := ownr.slice
  have hcr := own_cap' ownr
  unfold maxLen at hcr
  generalize hRR : readsR t = R at *
  have HR := qh hRR
  clear hr2 ownr C0 CK hRR O1 G1 W2
  go_wp2_with fail
  go_loopw [7, 39] (fun nm i wi => ∃ m : Nat, m ≤ R.length ∧ i = .int .i64 m ∧ Hid (∃ vi, OutAt W1.heap.size go wi vi (readK p.globals acc (R.take m)) ∧ GrewAt go v vi w2 wi)) (fun _ i _ => R.length - (intOf i).toNat)
  case atStart => exact ⟨0, Nat.zero_le _, rfl, qh ⟨_, O2.out, GrewAt.refl _ _ _⟩⟩
  case round =>
   obtain ⟨m, hm, rfl, HI⟩ := hrel
   obtain ⟨vi, oi, gi⟩ := HI.out
   have OI := qh oi
   have GI := qh gi
   have hrk := readK_len p.globals acc (R.take m)
   have hrt : (R.take m).length ≤ R.length := by rw [List.length_take]; omega
   have WI := qh (W3.out.trans gi.keep (fun i hi h => ⟨h, fun e => by have := (O2.out.own.lt i e).1; omega⟩))
   clear oi gi
   by_cases hlt2 : m < R.length
   ·obtain ⟨rb, ro, rfl, hcell⟩ := rd_str (Own.rd (RR.out.keep GI.out.keep NE.out).strs) hlt2
    have HT := qh (readK_take p.globals acc R m hlt2)
    have C0 := WI.out.cellEq (p := ⟨gp, 0, none⟩) EE.out.np (EE.out.gp1 0 _ rfl)
    have CK := WI.out.cellEq (p := ⟨gk, 0, none⟩) EE.out.nk EE.out.gk1
    have h0m : (0 : Int) ≤ (m : Int) := by omega
    have h1m : (m : Int) < (R.length : Int) := by omega
    simp only at C0 CK
    go_wp2_with fail
    refine (impl_look W1.heap.size go _ _ vi p.globals (readK p.globals acc (R.take m)) R[m] ((EE.out.prog WI.out).gs) OI.out (by omega)).mono ?_
    rintro e w6 ⟨rfl, v6, o6, g6⟩
    have O6 : Hid (∃ vi, OutAt W1.heap.size go w6 vi (readK p.globals acc (R.take (m + 1))) ∧ GrewAt go v vi w2 w6) := qh ⟨v6, by rw [HT.out]; exact o6, GI.out.trans g6⟩
    clear o6 g6 C0 CK hcell
    go_wp2_with fail
    go_roundw
    case rel => exact ⟨m + 1, by omega, by go_num, O6⟩
    case measure => simp [intOf]; omega
   ·have TK : Hid (R.take m = R) := qh (List.take_of_length_le (by omega))
    go_wp2_with fail
    go_ret
    refine ⟨rfl, vi, ?_, G2.out.trans GI.out⟩
    rw [HM1.out, HR.out]
    have := OI.out
    rw [TK.out] at this
    exact this
 ·skip
  go_enter Tryz.func78, Tryz.ntmps78
  have HM1 : Hid (headK p.globals p.locks (pnames p.procs) 3 acc xs = acc) := qh (by simp [headK])
  have O1 := HO0
  have W2 := qh (HK.out.trans (Keep.of_below (S := fun _ => True) BW.out) (fun _ _ _ => trivial))
  have G1 : Hid (GrewAt go v v w _) := qh (GrewAt.of_below BW.out)
  have hz1 := BW.out.size
  clear HO0 C1 C2 CQ BX SB
  go_wp2_with fail
  refine (impl_ReadsOf_any t tk tn ts tA tm tc _ (TT.out.any.belowA BW.out)).mono ?_
  rintro e w2 ⟨vr, rfl, ownr⟩
  have hr2 := ownr.2
  have RR := qh (OwnB.of_strs ownr)
  have NE : Hid (∀ b, vr.ownBlock = some b → b ≠ go ∧ v.ownBlock ≠ some b) := qh (fun b hb => ⟨fun e => by have h1 := (ownr.inB b hb).1; have h2 := lt_of_block O1.out.at'; omega, fun e => by have h1 := (ownr.inB b hb).1; have h2 := (O1.out.own.lt b e).2; omega⟩)
  have O2 := qh (O1.out.keep hr2)
  have G2 := qh (G1.out.trans (GrewAt.of_below hr2))
  have W3 := qh (W2.out.trans (Keep.of_below (S := fun _ => True) hr2) (fun _ _ _ => trivial))
  obtain ⟨Ar, cr, rfl, _⟩ := ownr.slice
  have hcr := own_cap' ownr
  unfold maxLen at hcr
  generalize hRR : readsR t = R at *
  have HR := qh hRR
  clear hr2 ownr C0 CK hRR O1 G1 W2
  go_wp2_with fail
  go_loopw [7, 39] (fun nm i wi => ∃ m : Nat, m ≤ R.length ∧ i = .int .i64 m ∧ Hid (∃ vi, OutAt W1.heap.size go wi vi (readK p.globals acc (R.take m)) ∧ GrewAt go v vi w2 wi)) (fun _ i _ => R.length - (intOf i).toNat)
  case atStart => exact ⟨0, Nat.zero_le _, rfl, qh ⟨_, O2.out, GrewAt.refl _ _ _⟩⟩
  case round =>
   obtain ⟨m, hm, rfl, HI⟩ := hrel
   obtain ⟨vi, oi, gi⟩ := HI.out
   have OI := qh oi
   have GI := qh gi
   have hrk := readK_len p.globals acc (R.take m)
   have hrt : (R.take m).length ≤ R.length := by rw [List.length_take]; omega
   have WI := qh (W3.out.trans gi.keep (fun i hi h => ⟨h, fun e => by have := (O2.out.own.lt i e).1; omega⟩))
   clear oi gi
   by_cases hlt2 : m < R.length
   ·obtain ⟨rb, ro, rfl, hcell⟩ := rd_str (Own.rd (RR.out.keep GI.out.keep NE.out).strs) hlt2
    have HT := qh (readK_take p.globals acc R m hlt2)
    have C0 := WI.out.cellEq (p := ⟨gp, 0, none⟩) EE.out.np (EE.out.gp1 0 _ rfl)
    have CK := WI.out.cellEq (p := ⟨gk, 0, none⟩) EE.out.nk EE.out.gk1
    have h0m : (0 : Int) ≤ (m : Int) := by omega
    have h1m : (m : Int) < (R.length : Int) := by omega
    simp only at C0 CK
    go_wp2_with fail
    refine (impl_look W1.heap.size go _ _ vi p.globals (readK p.globals acc (R.take m)) R[m] ((EE.out.prog WI.out).gs) OI.out (by omega)).mono ?_
    rintro e w6 ⟨rfl, v6, o6, g6⟩
    have O6 : Hid (∃ vi, OutAt W1.heap.size go w6 vi (readK p.globals acc (R.take (m + 1))) ∧ GrewAt go v vi w2 w6) := qh ⟨v6, by rw [HT.out]; exact o6, GI.out.trans g6⟩
    clear o6 g6 C0 CK hcell
    go_wp2_with fail
    go_roundw
    case rel => exact ⟨m + 1, by omega, by go_num, O6⟩
    case measure => simp [intOf]; omega
   ·have TK : Hid (R.take m = R) := qh (List.take_of_length_le (by omega))
    go_wp2_with fail
    go_ret
    refine ⟨rfl, vi, ?_, G2.out.trans GI.out⟩
    rw [HM1.out, HR.out]
    have := OI.out
    rw [TK.out] at this
    exact this
 ·skip
  go_enter Tryz.func78, Tryz.ntmps78
  have HM1 : Hid (headK p.globals p.locks (pnames p.procs) xk acc xs = acc) := qh (by rw [beq_eq_false_iff_ne] at e1 e6 e7 e4 e5; simp [headK, e1, e6, e7, e4, e5])
  have O1 := HO0
  have W2 := qh (HK.out.trans (Keep.of_below (S := fun _ => True) BW.out) (fun _ _ _ => trivial))
  have G1 : Hid (GrewAt go v v w _) := qh (GrewAt.of_below BW.out)
  have hz1 := BW.out.size
  clear HO0 C1 C2 CQ BX SB
  go_wp2_with fail
  refine (impl_ReadsOf_any t tk tn ts tA tm tc _ (TT.out.any.belowA BW.out)).mono ?_
  rintro e w2 ⟨vr, rfl, ownr⟩
  have hr2 := ownr.2
  have RR := qh (OwnB.of_strs ownr)
  have NE : Hid (∀ b, vr.ownBlock = some b → b ≠ go ∧ v.ownBlock ≠ some b) := qh (fun b hb => ⟨fun e => by have h1 := (ownr.inB b hb).1; have h2 := lt_of_block O1.out.at'; omega, fun e => by have h1 := (ownr.inB b hb).1; have h2 := (O1.out.own.lt b e).2; omega⟩)
  have O2 := qh (O1.out.keep hr2)
  have G2 := qh (G1.out.trans (GrewAt.of_below hr2))
  have W3 := qh (W2.out.trans (Keep.of_below (S := fun _ => True) hr2) (fun _ _ _ => trivial))
  obtain ⟨Ar, cr, rfl, _⟩ := ownr.slice
  have hcr := own_cap' ownr
  unfold maxLen at hcr
  generalize hRR : readsR t = R at *
  have HR := qh hRR
  clear hr2 ownr C0 CK hRR O1 G1 W2
  go_wp2_with fail
  go_loopw [7, 39] (fun nm i wi => ∃ m : Nat, m ≤ R.length ∧ i = .int .i64 m ∧ Hid (∃ vi, OutAt W1.heap.size go wi vi (readK p.globals acc (R.take m)) ∧ GrewAt go v vi w2 wi)) (fun _ i _ => R.length - (intOf i).toNat)
  case atStart => exact ⟨0, Nat.zero_le _, rfl, qh ⟨_, O2.out, GrewAt.refl _ _ _⟩⟩
  case round =>
   obtain ⟨m, hm, rfl, HI⟩ := hrel
   obtain ⟨vi, oi, gi⟩ := HI.out
   have OI := qh oi
   have GI := qh gi
   have hrk := readK_len p.globals acc (R.take m)
   have hrt : (R.take m).length ≤ R.length := by rw [List.length_take]; omega
   have WI := qh (W3.out.trans gi.keep (fun i hi h => ⟨h, fun e => by have := (O2.out.own.lt i e).1; omega⟩))
   clear oi gi
   by_cases hlt2 : m < R.length
   ·obtain ⟨rb, ro, rfl, hcell⟩ := rd_str (Own.rd (RR.out.keep GI.out.keep NE.out).strs) hlt2
    have HT := qh (readK_take p.globals acc R m hlt2)
    have C0 := WI.out.cellEq (p := ⟨gp, 0, none⟩) EE.out.np (EE.out.gp1 0 _ rfl)
    have CK := WI.out.cellEq (p := ⟨gk, 0, none⟩) EE.out.nk EE.out.gk1
    have h0m : (0 : Int) ≤ (m : Int) := by omega
    have h1m : (m : Int) < (R.length : Int) := by omega
    simp only at C0 CK
    go_wp2_with fail
    refine (impl_look W1.heap.size go _ _ vi p.globals (readK p.globals acc (R.take m)) R[m] ((EE.out.prog WI.out).gs) OI.out (by omega)).mono ?_
    rintro e w6 ⟨rfl, v6, o6, g6⟩
    have O6 : Hid (∃ vi, OutAt W1.heap.size go w6 vi (readK p.globals acc (R.take (m + 1))) ∧ GrewAt go v vi w2 w6) := qh ⟨v6, by rw [HT.out]; exact o6, GI.out.trans g6⟩
    clear o6 g6 C0 CK hcell
    go_wp2_with fail
    go_roundw
    case rel => exact ⟨m + 1, by omega, by go_num, O6⟩
    case measure => simp [intOf]; omega
   ·have TK : Hid (R.take m = R) := qh (List.take_of_length_le (by omega))
    go_wp2_with fail
    go_ret
    refine ⟨rfl, vi, ?_, G2.out.trans GI.out⟩
    rw [HM1.out, HR.out]
    have := OI.out
    rw [TK.out] at this
    exact this
end Go.Proofs.YtnmblfonmfjoeaaGreatDoor
