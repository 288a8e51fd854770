/- Lemmas for the row. -/
import Derived.Test.YtadcebdhgocmhaaKo31
namespace Go.Proofs.Ytadcebdhgocmhaa
open Go.RowKit
set_option linter.unusedVariables false
structure UnkEnv (W0 W1 : World) (p : Pg) (x : V3) (go gk gp gq : Nat) (qv : Value) (base : Nat) : Prop where
  hp : PgIs W0 x p
  b01 : Below W0.heap.size W0 W1
  go0 : W0.heap.size ≤ go
  gk1 : W1.cell? ⟨gk, 0, none⟩ = some (.func (.func 71) #[] #[.pointer (some ⟨go, 0, none⟩)])
  gp1 : BoxB W1 gp [.slice x.gA p.globals.length x.gc, .slice x.lA p.locks.length x.lc, .slice x.pA p.procs.length x.pc]
  gq1 : W1.cell? ⟨gq, 0, none⟩ = some qv
  q : OwnB base W1 qv (pnames p.procs)
  so : Sane 9 W1 go
  nk : gk ≠ go
  np : gp ≠ go
  nq : gq ≠ go
theorem UnkEnv.prog {W0 W1 w : World} {p : Pg} {x : V3} {go gk gp gq : Nat} {qv : Value} {base : Nat} (E : UnkEnv W0 W1 p x go gk gp gq qv base) (hk : Keep (fun i => i ≠ go) W1 w) : PgIs w x p :=
  E.hp.belowA (E.b01.trans (hk.below E.b01.size (fun b hb => by have := E.go0; omega)))
theorem UnkEnv.names {W0 W1 w : World} {p : Pg} {x : V3} {go gk gp gq : Nat} {qv : Value} {base : Nat} (E : UnkEnv W0 W1 p x go gk gp gq qv base) (hk : Keep (fun i => i ≠ go) W1 w) : OwnB base w qv (pnames p.procs) :=
  E.q.keep hk (fun b hb e => E.q.ne E.so (e ▸ hb))
def headG (gl lo pr acc : List ByteArray) : St → List ByteArray
  | .mk k s t _ _ => readK gl (headK gl lo pr k acc s) (readsR t)
theorem headG_len (gl lo pr acc : List ByteArray) (g : St) : (headG gl lo pr acc g).length ≤ acc.length + 128 := by
  obtain ⟨k, s, t, b, e⟩ := g
  have h1 := headK_len gl lo pr k acc s
  have h2 := readK_len gl (headK gl lo pr k acc s) (readsR t)
  have h3 := readsR_ok t
  show (readK gl (headK gl lo pr k acc s) (readsR t)).length ≤ _
  omega
set_option maxHeartbeats 6400000 in
set_option maxRecDepth 100000 in
theorem unk_step (W0 W1 : World) (p : Pg) (px : V3) (go gk gp gq : Nat) (qv : Value) (base : Nat) (E : UnkEnv W0 W1 p px go gk gp gq qv base) (acc : List ByteArray) (x : V8) (g : St) (w : World) (v : Value)
    (hbd : acc.length + 128 ≤ 10000000) (ho : OutAt W1.heap.size go w v acc) (hk : Keep (fun i => i ≠ go) W1 w) (hs : StIs (fun i => i ≠ go ∧ (i < W1.heap.size ∨ Sane 9 w i)) w x g) :
    Calls Try.prog 72 #[.agg #[.int .i64 x.k, .string x.s, .int .i64 x.tk, .int .i64 x.tn, .string x.ts, .slice x.tA x.tm x.tc, .slice x.bA x.bm x.bc, .slice x.eA x.em x.ec], .pointer (some ⟨gk, 0, none⟩), .pointer (some ⟨gp, 0, none⟩), .pointer (some ⟨gq, 0, none⟩)] w fun e w' =>
      e = .returned (.bool true) ∧ ∃ v', OutAt W1.heap.size go w' v' (headG p.globals p.locks (pnames p.procs) acc g) ∧ GrewAt go v v' w w' := by
  obtain ⟨t, body, els, rfl, hinv⟩ := hs.inv
  have ht := hinv.2.2.1
  clear hinv
  show Calls Try.prog 72 _ w fun e w' => e = .returned (.bool true) ∧ ∃ v', OutAt W1.heap.size go w' v' (readK p.globals (headK p.globals p.locks (pnames p.procs) x.k acc x.s) (readsR t)) ∧ GrewAt go v v' w w'
  obtain ⟨xk, xs, tk, tn, ts, tA, tm, tc, bA, bm, bc, eA, em, ec⟩ := x
  obtain ⟨gA, gc, lA, lc, pA, pc⟩ := px
  simp only [V8.term] at ht ⊢
  have P := Lib.hid (E.prog hk)
  have Q := Lib.hid (E.names hk)
  obtain ⟨Aq, cq, rfl, _⟩ := Q.out.strs.slice
  have C0 := hk.cellEq (p := ⟨gp, 0, none⟩) E.np (E.gp1 0 _ rfl)
  have C1 := hk.cellEq (p := ⟨gp, 1, none⟩) E.np (E.gp1 1 _ rfl)
  have C2 := hk.cellEq (p := ⟨gp, 2, none⟩) E.np (E.gp1 2 _ rfl)
  have CK := hk.cellEq (p := ⟨gk, 0, none⟩) E.nk E.gk1
  have CQ := hk.cellEq (p := ⟨gq, 0, none⟩) E.nq E.gq1
  have L0 := cell_lt C0
  have LK := cell_lt CK
  have LQ := cell_lt CQ
  simp only at C0 C1 C2 L0 LK LQ
  have z1 := hk.size
  have EE := Lib.hid E
  have TT := Lib.hid ht
  have HO := Lib.hid ho
  have HK := Lib.hid hk
  have HO0 : Hid (OutAt W1.heap.size go (w.alloc (.cells #[.int .i64 xk, .string xs, .int .i64 tk, .int .i64 tn, .string ts, .slice tA tm tc, .slice bA bm bc, .slice eA em ec] 36)) v acc) := Lib.hid (ho.alloc _)
  have BX : Hid (BoxB (w.alloc (.cells #[.int .i64 xk, .string xs, .int .i64 tk, .int .i64 tn, .string ts, .slice tA tm tc, .slice bA bm bc, .slice eA em ec] 36)) w.heap.size [.int .i64 xk, .string xs, .int .i64 tk, .int .i64 tn, .string ts, .slice tA tm tc, .slice bA bm bc, .slice eA em ec]) := Lib.hid (BoxB.lit rfl)
  have SB : Hid (Sane 9 (w.alloc (.cells #[.int .i64 xk, .string xs, .int .i64 tk, .int .i64 tn, .string ts, .slice tA tm tc, .slice bA bm bc, .slice eA em ec] 36)) w.heap.size) := Lib.hid (sane_new (by decide))
  have BW : Hid (Below w.heap.size w (w.alloc (.cells #[.int .i64 xk, .string xs, .int .i64 tk, .int .i64 tn, .string ts, .slice tA tm tc, .slice bA bm bc, .slice eA em ec] 36))) := Lib.hid (Below.alloc (Below.refl _ _) (Nat.le_refl _) _)
  have lg := lt_of_block ho.at'
  have FK : Hid (∀ i, (i ≠ go ∧ (i < W1.heap.size ∨ Sane 9 w i)) → i ≠ go ∧ v.ownBlock ≠ some i) := Lib.hid (fun i hi => ⟨hi.1, fun e => by
    rcases hi.2 with h | h
    · have := (ho.own.lt i e).1; omega
    · exact ho.own.ne h e⟩)
  have hrl := readsR_ok t
  clear ht ho hk E hs
  rcases kind_cases xk with rfl | rfl | rfl | rfl | rfl | rfl | rfl | ⟨e1, e6, e7, e4, e5, e2, e3⟩
  · skip
    go_enter Try.func72, Try.ntmps72
    go_wp2_with fail
    refine (impl_look W1.heap.size go _ _ v p.globals acc xs ((P.out.belowA BW.out).gs) HO0.out (by omega)).mono ?_
    rintro e w1 ⟨rfl, v1, o1, g1⟩
    have O1 := Lib.hid o1
    have G1 := Lib.hid ((GrewAt.of_below BW.out).trans g1)
    have B1 := Lib.hid (BX.out.keepS g1.keep ⟨by omega, HO0.out.own.ne SB.out⟩)
    have K1 := Lib.hid (g1.keep.mono (S' := fun i => i ≠ go ∧ Sane 9 (w.alloc (.cells #[.int .i64 1, .string xs, .int .i64 tk, .int .i64 tn, .string ts, .slice tA tm tc, .slice bA bm bc, .slice eA em ec] 36)) i) (fun i hi hS => ⟨hS.1, HO0.out.own.ne hS.2⟩))
    have HM1 : Hid (headK p.globals p.locks (pnames p.procs) 1 acc xs = addUnk p.globals acc xs) := Lib.hid (by simp [headK])
    have hml : (addUnk p.globals acc xs).length ≤ acc.length + 1 := addUnk_len _ _ _
    have W2 := Lib.hid (HK.out.trans ((Keep.of_below BW.out).trans g1.keep (S := fun i => i ≠ go ∧ v.ownBlock ≠ some i) (fun _ _ h => h)) (fun i hi h => ⟨h, fun e => by have := (HO0.out.own.lt i e).1; omega⟩))
    have C0 := W2.out.cellEq (p := ⟨gp, 0, none⟩) EE.out.np (EE.out.gp1 0 _ rfl)
    have CK := W2.out.cellEq (p := ⟨gk, 0, none⟩) EE.out.nk EE.out.gk1
    have WT : Hid (TmIs AnyB w1 [.int .i64 tk, .int .i64 tn, .string ts, .slice tA tm tc] t) := Lib.hid (TT.out.keep (fun q hq hF => G1.out.keep.cell hq (FK.out _ hF)) (fun _ _ _ => trivial))
    have hz1 := K1.out.size
    have q2 := B1.out 2 _ rfl
    have q3 := B1.out 3 _ rfl
    have q4 := B1.out 4 _ rfl
    have q5 := B1.out 5 _ rfl
    clear o1 g1 C1 C2 CQ BX SB HO0
    go_wp2_with fail
    refine (impl_ReadsOf_any t tk tn ts tA tm tc _ (WT.out)).mono ?_
    rintro e w2 ⟨vr, rfl, ownr⟩
    have hr2 := ownr.2
    have RR := Lib.hid (OwnB.of_strs ownr)
    have NE : Hid (∀ b, vr.ownBlock = some b → b ≠ go ∧ v1.ownBlock ≠ some b) := Lib.hid (fun b hb => ⟨fun e => by have h1 := (ownr.inB b hb).1; have h2 := lt_of_block O1.out.at'; omega, fun e => by have h1 := (ownr.inB b hb).1; have h2 := (O1.out.own.lt b e).2; omega⟩)
    have O2 := Lib.hid (O1.out.keep hr2)
    have G2 := Lib.hid (G1.out.trans (GrewAt.of_below hr2))
    have W3 := Lib.hid (W2.out.trans (Keep.of_below (S := fun _ => True) hr2) (fun _ _ _ => trivial))
    obtain ⟨Ar, cr, rfl, _⟩ := ownr.slice
    have hcr := own_cap' ownr
    unfold maxLen at hcr
    generalize hRR : readsR t = R at *
    have HR := Lib.hid hRR
    clear hr2 ownr B1 K1 q2 q3 q4 q5 C0 CK hRR O1 G1 W2
    go_wp2_with fail
    go_loopw [7, 39] (fun nm i wi => ∃ m : Nat, m ≤ R.length ∧ i = .int .i64 m ∧ Hid (∃ vi, OutAt W1.heap.size go wi vi (readK p.globals (addUnk p.globals acc xs) (R.take m)) ∧ GrewAt go v1 vi w2 wi)) (fun _ i _ => R.length - (intOf i).toNat)
    case atStart => exact ⟨0, Nat.zero_le _, rfl, Lib.hid ⟨_, O2.out, GrewAt.refl _ _ _⟩⟩
    case round =>
      obtain ⟨m, hm, rfl, HI⟩ := hrel
      obtain ⟨vi, oi, gi⟩ := HI.out
      have OI := Lib.hid oi
      have GI := Lib.hid gi
      have hrk := readK_len p.globals (addUnk p.globals acc xs) (R.take m)
      have hrt : (R.take m).length ≤ R.length := by rw [List.length_take]; omega
      have WI := Lib.hid (W3.out.trans gi.keep (fun i hi h => ⟨h, fun e => by have := (O2.out.own.lt i e).1; omega⟩))
      clear oi gi
      by_cases hlt2 : m < R.length
      · obtain ⟨rb, ro, rfl, hcell⟩ := rd_str (Own.rd (RR.out.keep GI.out.keep NE.out).strs) hlt2
        have HT := Lib.hid (readK_take p.globals (addUnk p.globals acc xs) R m hlt2)
        have C0 := WI.out.cellEq (p := ⟨gp, 0, none⟩) EE.out.np (EE.out.gp1 0 _ rfl)
        have CK := WI.out.cellEq (p := ⟨gk, 0, none⟩) EE.out.nk EE.out.gk1
        have h0m : (0 : Int) ≤ (m : Int) := by omega
        have h1m : (m : Int) < (R.length : Int) := by omega
        simp only at C0 CK
        go_wp2_with fail
        refine (impl_look W1.heap.size go _ _ vi p.globals (readK p.globals (addUnk p.globals acc xs) (R.take m)) R[m] ((EE.out.prog WI.out).gs) OI.out (by omega)).mono ?_
        rintro e w6 ⟨rfl, v6, o6, g6⟩
        have O6 : Hid (∃ vi, OutAt W1.heap.size go w6 vi (readK p.globals (addUnk p.globals acc xs) (R.take (m + 1))) ∧ GrewAt go v1 vi w2 w6) := Lib.hid ⟨v6, by rw [HT.out]; exact o6, GI.out.trans g6⟩
        clear o6 g6 C0 CK hcell
        go_wp2_with fail
        go_roundw
        case rel => exact ⟨m + 1, by omega, by go_num, O6⟩
        case measure => simp [intOf]; omega
      · have TK : Hid (R.take m = R) := Lib.hid (List.take_of_length_le (by omega))
        go_wp2_with fail
        go_ret
        refine ⟨rfl, vi, ?_, G2.out.trans GI.out⟩
        rw [HM1.out, HR.out]
        have := OI.out
        rw [TK.out] at this
        exact this
  · skip
    go_enter Try.func72, Try.ntmps72
    go_wp2_with fail
    refine (impl_look W1.heap.size go _ _ v p.locks acc xs ((P.out.belowA BW.out).ls) HO0.out (by omega)).mono ?_
    rintro e w1 ⟨rfl, v1, o1, g1⟩
    have O1 := Lib.hid o1
    have G1 := Lib.hid ((GrewAt.of_below BW.out).trans g1)
    have B1 := Lib.hid (BX.out.keepS g1.keep ⟨by omega, HO0.out.own.ne SB.out⟩)
    have K1 := Lib.hid (g1.keep.mono (S' := fun i => i ≠ go ∧ Sane 9 (w.alloc (.cells #[.int .i64 6, .string xs, .int .i64 tk, .int .i64 tn, .string ts, .slice tA tm tc, .slice bA bm bc, .slice eA em ec] 36)) i) (fun i hi hS => ⟨hS.1, HO0.out.own.ne hS.2⟩))
    have HM1 : Hid (headK p.globals p.locks (pnames p.procs) 6 acc xs = addUnk p.locks acc xs) := Lib.hid (by simp [headK])
    have hml : (addUnk p.locks acc xs).length ≤ acc.length + 1 := addUnk_len _ _ _
    have W2 := Lib.hid (HK.out.trans ((Keep.of_below BW.out).trans g1.keep (S := fun i => i ≠ go ∧ v.ownBlock ≠ some i) (fun _ _ h => h)) (fun i hi h => ⟨h, fun e => by have := (HO0.out.own.lt i e).1; omega⟩))
    have C0 := W2.out.cellEq (p := ⟨gp, 0, none⟩) EE.out.np (EE.out.gp1 0 _ rfl)
    have CK := W2.out.cellEq (p := ⟨gk, 0, none⟩) EE.out.nk EE.out.gk1
    have WT : Hid (TmIs AnyB w1 [.int .i64 tk, .int .i64 tn, .string ts, .slice tA tm tc] t) := Lib.hid (TT.out.keep (fun q hq hF => G1.out.keep.cell hq (FK.out _ hF)) (fun _ _ _ => trivial))
    have hz1 := K1.out.size
    have q2 := B1.out 2 _ rfl
    have q3 := B1.out 3 _ rfl
    have q4 := B1.out 4 _ rfl
    have q5 := B1.out 5 _ rfl
    clear o1 g1 C1 C2 CQ BX SB HO0
    go_wp2_with fail
    refine (impl_ReadsOf_any t tk tn ts tA tm tc _ (WT.out)).mono ?_
    rintro e w2 ⟨vr, rfl, ownr⟩
    have hr2 := ownr.2
    have RR := Lib.hid (OwnB.of_strs ownr)
    have NE : Hid (∀ b, vr.ownBlock = some b → b ≠ go ∧ v1.ownBlock ≠ some b) := Lib.hid (fun b hb => ⟨fun e => by have h1 := (ownr.inB b hb).1; have h2 := lt_of_block O1.out.at'; omega, fun e => by have h1 := (ownr.inB b hb).1; have h2 := (O1.out.own.lt b e).2; omega⟩)
    have O2 := Lib.hid (O1.out.keep hr2)
    have G2 := Lib.hid (G1.out.trans (GrewAt.of_below hr2))
    have W3 := Lib.hid (W2.out.trans (Keep.of_below (S := fun _ => True) hr2) (fun _ _ _ => trivial))
    obtain ⟨Ar, cr, rfl, _⟩ := ownr.slice
    have hcr := own_cap' ownr
    unfold maxLen at hcr
    generalize hRR : readsR t = R at *
    have HR := Lib.hid hRR
    clear hr2 ownr B1 K1 q2 q3 q4 q5 C0 CK hRR O1 G1 W2
    go_wp2_with fail
    go_loopw [7, 39] (fun nm i wi => ∃ m : Nat, m ≤ R.length ∧ i = .int .i64 m ∧ Hid (∃ vi, OutAt W1.heap.size go wi vi (readK p.globals (addUnk p.locks acc xs) (R.take m)) ∧ GrewAt go v1 vi w2 wi)) (fun _ i _ => R.length - (intOf i).toNat)
    case atStart => exact ⟨0, Nat.zero_le _, rfl, Lib.hid ⟨_, O2.out, GrewAt.refl _ _ _⟩⟩
    case round =>
      obtain ⟨m, hm, rfl, HI⟩ := hrel
      obtain ⟨vi, oi, gi⟩ := HI.out
      have OI := Lib.hid oi
      have GI := Lib.hid gi
      have hrk := readK_len p.globals (addUnk p.locks acc xs) (R.take m)
      have hrt : (R.take m).length ≤ R.length := by rw [List.length_take]; omega
      have WI := Lib.hid (W3.out.trans gi.keep (fun i hi h => ⟨h, fun e => by have := (O2.out.own.lt i e).1; omega⟩))
      clear oi gi
      by_cases hlt2 : m < R.length
      · obtain ⟨rb, ro, rfl, hcell⟩ := rd_str (Own.rd (RR.out.keep GI.out.keep NE.out).strs) hlt2
        have HT := Lib.hid (readK_take p.globals (addUnk p.locks acc xs) R m hlt2)
        have C0 := WI.out.cellEq (p := ⟨gp, 0, none⟩) EE.out.np (EE.out.gp1 0 _ rfl)
        have CK := WI.out.cellEq (p := ⟨gk, 0, none⟩) EE.out.nk EE.out.gk1
        have h0m : (0 : Int) ≤ (m : Int) := by omega
        have h1m : (m : Int) < (R.length : Int) := by omega
        simp only at C0 CK
        go_wp2_with fail
        refine (impl_look W1.heap.size go _ _ vi p.globals (readK p.globals (addUnk p.locks acc xs) (R.take m)) R[m] ((EE.out.prog WI.out).gs) OI.out (by omega)).mono ?_
        rintro e w6 ⟨rfl, v6, o6, g6⟩
        have O6 : Hid (∃ vi, OutAt W1.heap.size go w6 vi (readK p.globals (addUnk p.locks acc xs) (R.take (m + 1))) ∧ GrewAt go v1 vi w2 w6) := Lib.hid ⟨v6, by rw [HT.out]; exact o6, GI.out.trans g6⟩
        clear o6 g6 C0 CK hcell
        go_wp2_with fail
        go_roundw
        case rel => exact ⟨m + 1, by omega, by go_num, O6⟩
        case measure => simp [intOf]; omega
      · have TK : Hid (R.take m = R) := Lib.hid (List.take_of_length_le (by omega))
        go_wp2_with fail
        go_ret
        refine ⟨rfl, vi, ?_, G2.out.trans GI.out⟩
        rw [HM1.out, HR.out]
        have := OI.out
        rw [TK.out] at this
        exact this
  · skip
    go_enter Try.func72, Try.ntmps72
    go_wp2_with fail
    refine (impl_look W1.heap.size go _ _ v p.locks acc xs ((P.out.belowA BW.out).ls) HO0.out (by omega)).mono ?_
    rintro e w1 ⟨rfl, v1, o1, g1⟩
    have O1 := Lib.hid o1
    have G1 := Lib.hid ((GrewAt.of_below BW.out).trans g1)
    have B1 := Lib.hid (BX.out.keepS g1.keep ⟨by omega, HO0.out.own.ne SB.out⟩)
    have K1 := Lib.hid (g1.keep.mono (S' := fun i => i ≠ go ∧ Sane 9 (w.alloc (.cells #[.int .i64 7, .string xs, .int .i64 tk, .int .i64 tn, .string ts, .slice tA tm tc, .slice bA bm bc, .slice eA em ec] 36)) i) (fun i hi hS => ⟨hS.1, HO0.out.own.ne hS.2⟩))
    have HM1 : Hid (headK p.globals p.locks (pnames p.procs) 7 acc xs = addUnk p.locks acc xs) := Lib.hid (by simp [headK])
    have hml : (addUnk p.locks acc xs).length ≤ acc.length + 1 := addUnk_len _ _ _
    have W2 := Lib.hid (HK.out.trans ((Keep.of_below BW.out).trans g1.keep (S := fun i => i ≠ go ∧ v.ownBlock ≠ some i) (fun _ _ h => h)) (fun i hi h => ⟨h, fun e => by have := (HO0.out.own.lt i e).1; omega⟩))
    have C0 := W2.out.cellEq (p := ⟨gp, 0, none⟩) EE.out.np (EE.out.gp1 0 _ rfl)
    have CK := W2.out.cellEq (p := ⟨gk, 0, none⟩) EE.out.nk EE.out.gk1
    have WT : Hid (TmIs AnyB w1 [.int .i64 tk, .int .i64 tn, .string ts, .slice tA tm tc] t) := Lib.hid (TT.out.keep (fun q hq hF => G1.out.keep.cell hq (FK.out _ hF)) (fun _ _ _ => trivial))
    have hz1 := K1.out.size
    have q2 := B1.out 2 _ rfl
    have q3 := B1.out 3 _ rfl
    have q4 := B1.out 4 _ rfl
    have q5 := B1.out 5 _ rfl
    clear o1 g1 C1 C2 CQ BX SB HO0
    go_wp2_with fail
    refine (impl_ReadsOf_any t tk tn ts tA tm tc _ (WT.out)).mono ?_
    rintro e w2 ⟨vr, rfl, ownr⟩
    have hr2 := ownr.2
    have RR := Lib.hid (OwnB.of_strs ownr)
    have NE : Hid (∀ b, vr.ownBlock = some b → b ≠ go ∧ v1.ownBlock ≠ some b) := Lib.hid (fun b hb => ⟨fun e => by have h1 := (ownr.inB b hb).1; have h2 := lt_of_block O1.out.at'; omega, fun e => by have h1 := (ownr.inB b hb).1; have h2 := (O1.out.own.lt b e).2; omega⟩)
    have O2 := Lib.hid (O1.out.keep hr2)
    have G2 := Lib.hid (G1.out.trans (GrewAt.of_below hr2))
    have W3 := Lib.hid (W2.out.trans (Keep.of_below (S := fun _ => True) hr2) (fun _ _ _ => trivial))
    obtain ⟨Ar, cr, rfl, _⟩ := ownr.slice
    have hcr := own_cap' ownr
    unfold maxLen at hcr
    generalize hRR : readsR t = R at *
    have HR := Lib.hid hRR
    clear hr2 ownr B1 K1 q2 q3 q4 q5 C0 CK hRR O1 G1 W2
    go_wp2_with fail
    go_loopw [7, 39] (fun nm i wi => ∃ m : Nat, m ≤ R.length ∧ i = .int .i64 m ∧ Hid (∃ vi, OutAt W1.heap.size go wi vi (readK p.globals (addUnk p.locks acc xs) (R.take m)) ∧ GrewAt go v1 vi w2 wi)) (fun _ i _ => R.length - (intOf i).toNat)
    case atStart => exact ⟨0, Nat.zero_le _, rfl, Lib.hid ⟨_, O2.out, GrewAt.refl _ _ _⟩⟩
    case round =>
      obtain ⟨m, hm, rfl, HI⟩ := hrel
      obtain ⟨vi, oi, gi⟩ := HI.out
      have OI := Lib.hid oi
      have GI := Lib.hid gi
      have hrk := readK_len p.globals (addUnk p.locks acc xs) (R.take m)
      have hrt : (R.take m).length ≤ R.length := by rw [List.length_take]; omega
      have WI := Lib.hid (W3.out.trans gi.keep (fun i hi h => ⟨h, fun e => by have := (O2.out.own.lt i e).1; omega⟩))
      clear oi gi
      by_cases hlt2 : m < R.length
      · obtain ⟨rb, ro, rfl, hcell⟩ := rd_str (Own.rd (RR.out.keep GI.out.keep NE.out).strs) hlt2
        have HT := Lib.hid (readK_take p.globals (addUnk p.locks acc xs) R m hlt2)
        have C0 := WI.out.cellEq (p := ⟨gp, 0, none⟩) EE.out.np (EE.out.gp1 0 _ rfl)
        have CK := WI.out.cellEq (p := ⟨gk, 0, none⟩) EE.out.nk EE.out.gk1
        have h0m : (0 : Int) ≤ (m : Int) := by omega
        have h1m : (m : Int) < (R.length : Int) := by omega
        simp only at C0 CK
        go_wp2_with fail
        refine (impl_look W1.heap.size go _ _ vi p.globals (readK p.globals (addUnk p.locks acc xs) (R.take m)) R[m] ((EE.out.prog WI.out).gs) OI.out (by omega)).mono ?_
        rintro e w6 ⟨rfl, v6, o6, g6⟩
        have O6 : Hid (∃ vi, OutAt W1.heap.size go w6 vi (readK p.globals (addUnk p.locks acc xs) (R.take (m + 1))) ∧ GrewAt go v1 vi w2 w6) := Lib.hid ⟨v6, by rw [HT.out]; exact o6, GI.out.trans g6⟩
        clear o6 g6 C0 CK hcell
        go_wp2_with fail
        go_roundw
        case rel => exact ⟨m + 1, by omega, by go_num, O6⟩
        case measure => simp [intOf]; omega
      · have TK : Hid (R.take m = R) := Lib.hid (List.take_of_length_le (by omega))
        go_wp2_with fail
        go_ret
        refine ⟨rfl, vi, ?_, G2.out.trans GI.out⟩
        rw [HM1.out, HR.out]
        have := OI.out
        rw [TK.out] at this
        exact this
  · skip
    go_enter Try.func72, Try.ntmps72
    go_wp2_with fail
    refine (impl_look W1.heap.size go _ _ v (pnames p.procs) acc xs (Q.out.isStrs.below BW.out) HO0.out (by omega)).mono ?_
    rintro e w1 ⟨rfl, v1, o1, g1⟩
    have O1 := Lib.hid o1
    have G1 := Lib.hid ((GrewAt.of_below BW.out).trans g1)
    have B1 := Lib.hid (BX.out.keepS g1.keep ⟨by omega, HO0.out.own.ne SB.out⟩)
    have K1 := Lib.hid (g1.keep.mono (S' := fun i => i ≠ go ∧ Sane 9 (w.alloc (.cells #[.int .i64 4, .string xs, .int .i64 tk, .int .i64 tn, .string ts, .slice tA tm tc, .slice bA bm bc, .slice eA em ec] 36)) i) (fun i hi hS => ⟨hS.1, HO0.out.own.ne hS.2⟩))
    have HM1 : Hid (headK p.globals p.locks (pnames p.procs) 4 acc xs = addUnk (pnames p.procs) acc xs) := Lib.hid (by simp [headK])
    have hml : (addUnk (pnames p.procs) acc xs).length ≤ acc.length + 1 := addUnk_len _ _ _
    have W2 := Lib.hid (HK.out.trans ((Keep.of_below BW.out).trans g1.keep (S := fun i => i ≠ go ∧ v.ownBlock ≠ some i) (fun _ _ h => h)) (fun i hi h => ⟨h, fun e => by have := (HO0.out.own.lt i e).1; omega⟩))
    have C0 := W2.out.cellEq (p := ⟨gp, 0, none⟩) EE.out.np (EE.out.gp1 0 _ rfl)
    have CK := W2.out.cellEq (p := ⟨gk, 0, none⟩) EE.out.nk EE.out.gk1
    have WT : Hid (TmIs AnyB w1 [.int .i64 tk, .int .i64 tn, .string ts, .slice tA tm tc] t) := Lib.hid (TT.out.keep (fun q hq hF => G1.out.keep.cell hq (FK.out _ hF)) (fun _ _ _ => trivial))
    have hz1 := K1.out.size
    have q2 := B1.out 2 _ rfl
    have q3 := B1.out 3 _ rfl
    have q4 := B1.out 4 _ rfl
    have q5 := B1.out 5 _ rfl
    clear o1 g1 C1 C2 CQ BX SB HO0
    go_wp2_with fail
    refine (impl_ReadsOf_any t tk tn ts tA tm tc _ (WT.out)).mono ?_
    rintro e w2 ⟨vr, rfl, ownr⟩
    have hr2 := ownr.2
    have RR := Lib.hid (OwnB.of_strs ownr)
    have NE : Hid (∀ b, vr.ownBlock = some b → b ≠ go ∧ v1.ownBlock ≠ some b) := Lib.hid (fun b hb => ⟨fun e => by have h1 := (ownr.inB b hb).1; have h2 := lt_of_block O1.out.at'; omega, fun e => by have h1 := (ownr.inB b hb).1; have h2 := (O1.out.own.lt b e).2; omega⟩)
    have O2 := Lib.hid (O1.out.keep hr2)
    have G2 := Lib.hid (G1.out.trans (GrewAt.of_below hr2))
    have W3 := Lib.hid (W2.out.trans (Keep.of_below (S := fun _ => True) hr2) (fun _ _ _ => trivial))
    obtain ⟨Ar, cr, rfl, _⟩ := ownr.slice
    have hcr := own_cap' ownr
    unfold maxLen at hcr
    generalize hRR : readsR t = R at *
    have HR := Lib.hid hRR
    clear hr2 ownr B1 K1 q2 q3 q4 q5 C0 CK hRR O1 G1 W2
    go_wp2_with fail
    go_loopw [7, 39] (fun nm i wi => ∃ m : Nat, m ≤ R.length ∧ i = .int .i64 m ∧ Hid (∃ vi, OutAt W1.heap.size go wi vi (readK p.globals (addUnk (pnames p.procs) acc xs) (R.take m)) ∧ GrewAt go v1 vi w2 wi)) (fun _ i _ => R.length - (intOf i).toNat)
    case atStart => exact ⟨0, Nat.zero_le _, rfl, Lib.hid ⟨_, O2.out, GrewAt.refl _ _ _⟩⟩
    case round =>
      obtain ⟨m, hm, rfl, HI⟩ := hrel
      obtain ⟨vi, oi, gi⟩ := HI.out
      have OI := Lib.hid oi
      have GI := Lib.hid gi
      have hrk := readK_len p.globals (addUnk (pnames p.procs) acc xs) (R.take m)
      have hrt : (R.take m).length ≤ R.length := by rw [List.length_take]; omega
      have WI := Lib.hid (W3.out.trans gi.keep (fun i hi h => ⟨h, fun e => by have := (O2.out.own.lt i e).1; omega⟩))
      clear oi gi
      by_cases hlt2 : m < R.length
      · obtain ⟨rb, ro, rfl, hcell⟩ := rd_str (Own.rd (RR.out.keep GI.out.keep NE.out).strs) hlt2
        have HT := Lib.hid (readK_take p.globals (addUnk (pnames p.procs) acc xs) R m hlt2)
        have C0 := WI.out.cellEq (p := ⟨gp, 0, none⟩) EE.out.np (EE.out.gp1 0 _ rfl)
        have CK := WI.out.cellEq (p := ⟨gk, 0, none⟩) EE.out.nk EE.out.gk1
        have h0m : (0 : Int) ≤ (m : Int) := by omega
        have h1m : (m : Int) < (R.length : Int) := by omega
        simp only at C0 CK
        go_wp2_with fail
        refine (impl_look W1.heap.size go _ _ vi p.globals (readK p.globals (addUnk (pnames p.procs) acc xs) (R.take m)) R[m] ((EE.out.prog WI.out).gs) OI.out (by omega)).mono ?_
        rintro e w6 ⟨rfl, v6, o6, g6⟩
        have O6 : Hid (∃ vi, OutAt W1.heap.size go w6 vi (readK p.globals (addUnk (pnames p.procs) acc xs) (R.take (m + 1))) ∧ GrewAt go v1 vi w2 w6) := Lib.hid ⟨v6, by rw [HT.out]; exact o6, GI.out.trans g6⟩
        clear o6 g6 C0 CK hcell
        go_wp2_with fail
        go_roundw
        case rel => exact ⟨m + 1, by omega, by go_num, O6⟩
        case measure => simp [intOf]; omega
      · have TK : Hid (R.take m = R) := Lib.hid (List.take_of_length_le (by omega))
        go_wp2_with fail
        go_ret
        refine ⟨rfl, vi, ?_, G2.out.trans GI.out⟩
        rw [HM1.out, HR.out]
        have := OI.out
        rw [TK.out] at this
        exact this
  · skip
    go_enter Try.func72, Try.ntmps72
    go_wp2_with fail
    refine (impl_look W1.heap.size go _ _ v (pnames p.procs) acc xs (Q.out.isStrs.below BW.out) HO0.out (by omega)).mono ?_
    rintro e w1 ⟨rfl, v1, o1, g1⟩
    have O1 := Lib.hid o1
    have G1 := Lib.hid ((GrewAt.of_below BW.out).trans g1)
    have B1 := Lib.hid (BX.out.keepS g1.keep ⟨by omega, HO0.out.own.ne SB.out⟩)
    have K1 := Lib.hid (g1.keep.mono (S' := fun i => i ≠ go ∧ Sane 9 (w.alloc (.cells #[.int .i64 5, .string xs, .int .i64 tk, .int .i64 tn, .string ts, .slice tA tm tc, .slice bA bm bc, .slice eA em ec] 36)) i) (fun i hi hS => ⟨hS.1, HO0.out.own.ne hS.2⟩))
    have HM1 : Hid (headK p.globals p.locks (pnames p.procs) 5 acc xs = addUnk (pnames p.procs) acc xs) := Lib.hid (by simp [headK])
    have hml : (addUnk (pnames p.procs) acc xs).length ≤ acc.length + 1 := addUnk_len _ _ _
    have W2 := Lib.hid (HK.out.trans ((Keep.of_below BW.out).trans g1.keep (S := fun i => i ≠ go ∧ v.ownBlock ≠ some i) (fun _ _ h => h)) (fun i hi h => ⟨h, fun e => by have := (HO0.out.own.lt i e).1; omega⟩))
    have C0 := W2.out.cellEq (p := ⟨gp, 0, none⟩) EE.out.np (EE.out.gp1 0 _ rfl)
    have CK := W2.out.cellEq (p := ⟨gk, 0, none⟩) EE.out.nk EE.out.gk1
    have WT : Hid (TmIs AnyB w1 [.int .i64 tk, .int .i64 tn, .string ts, .slice tA tm tc] t) := Lib.hid (TT.out.keep (fun q hq hF => G1.out.keep.cell hq (FK.out _ hF)) (fun _ _ _ => trivial))
    have hz1 := K1.out.size
    have q2 := B1.out 2 _ rfl
    have q3 := B1.out 3 _ rfl
    have q4 := B1.out 4 _ rfl
    have q5 := B1.out 5 _ rfl
    clear o1 g1 C1 C2 CQ BX SB HO0
    go_wp2_with fail
    refine (impl_ReadsOf_any t tk tn ts tA tm tc _ (WT.out)).mono ?_
    rintro e w2 ⟨vr, rfl, ownr⟩
    have hr2 := ownr.2
    have RR := Lib.hid (OwnB.of_strs ownr)
    have NE : Hid (∀ b, vr.ownBlock = some b → b ≠ go ∧ v1.ownBlock ≠ some b) := Lib.hid (fun b hb => ⟨fun e => by have h1 := (ownr.inB b hb).1; have h2 := lt_of_block O1.out.at'; omega, fun e => by have h1 := (ownr.inB b hb).1; have h2 := (O1.out.own.lt b e).2; omega⟩)
    have O2 := Lib.hid (O1.out.keep hr2)
    have G2 := Lib.hid (G1.out.trans (GrewAt.of_below hr2))
    have W3 := Lib.hid (W2.out.trans (Keep.of_below (S := fun _ => True) hr2) (fun _ _ _ => trivial))
    obtain ⟨Ar, cr, rfl, _⟩ := ownr.slice
    have hcr := own_cap' ownr
    unfold maxLen at hcr
    generalize hRR : readsR t = R at *
    have HR := Lib.hid hRR
    clear hr2 ownr B1 K1 q2 q3 q4 q5 C0 CK hRR O1 G1 W2
    go_wp2_with fail
    go_loopw [7, 39] (fun nm i wi => ∃ m : Nat, m ≤ R.length ∧ i = .int .i64 m ∧ Hid (∃ vi, OutAt W1.heap.size go wi vi (readK p.globals (addUnk (pnames p.procs) acc xs) (R.take m)) ∧ GrewAt go v1 vi w2 wi)) (fun _ i _ => R.length - (intOf i).toNat)
    case atStart => exact ⟨0, Nat.zero_le _, rfl, Lib.hid ⟨_, O2.out, GrewAt.refl _ _ _⟩⟩
    case round =>
      obtain ⟨m, hm, rfl, HI⟩ := hrel
      obtain ⟨vi, oi, gi⟩ := HI.out
      have OI := Lib.hid oi
      have GI := Lib.hid gi
      have hrk := readK_len p.globals (addUnk (pnames p.procs) acc xs) (R.take m)
      have hrt : (R.take m).length ≤ R.length := by rw [List.length_take]; omega
      have WI := Lib.hid (W3.out.trans gi.keep (fun i hi h => ⟨h, fun e => by have := (O2.out.own.lt i e).1; omega⟩))
      clear oi gi
      by_cases hlt2 : m < R.length
      · obtain ⟨rb, ro, rfl, hcell⟩ := rd_str (Own.rd (RR.out.keep GI.out.keep NE.out).strs) hlt2
        have HT := Lib.hid (readK_take p.globals (addUnk (pnames p.procs) acc xs) R m hlt2)
        have C0 := WI.out.cellEq (p := ⟨gp, 0, none⟩) EE.out.np (EE.out.gp1 0 _ rfl)
        have CK := WI.out.cellEq (p := ⟨gk, 0, none⟩) EE.out.nk EE.out.gk1
        have h0m : (0 : Int) ≤ (m : Int) := by omega
        have h1m : (m : Int) < (R.length : Int) := by omega
        simp only at C0 CK
        go_wp2_with fail
        refine (impl_look W1.heap.size go _ _ vi p.globals (readK p.globals (addUnk (pnames p.procs) acc xs) (R.take m)) R[m] ((EE.out.prog WI.out).gs) OI.out (by omega)).mono ?_
        rintro e w6 ⟨rfl, v6, o6, g6⟩
        have O6 : Hid (∃ vi, OutAt W1.heap.size go w6 vi (readK p.globals (addUnk (pnames p.procs) acc xs) (R.take (m + 1))) ∧ GrewAt go v1 vi w2 w6) := Lib.hid ⟨v6, by rw [HT.out]; exact o6, GI.out.trans g6⟩
        clear o6 g6 C0 CK hcell
        go_wp2_with fail
        go_roundw
        case rel => exact ⟨m + 1, by omega, by go_num, O6⟩
        case measure => simp [intOf]; omega
      · have TK : Hid (R.take m = R) := Lib.hid (List.take_of_length_le (by omega))
        go_wp2_with fail
        go_ret
        refine ⟨rfl, vi, ?_, G2.out.trans GI.out⟩
        rw [HM1.out, HR.out]
        have := OI.out
        rw [TK.out] at this
        exact this
  · skip
    go_enter Try.func72, Try.ntmps72
    have HM1 : Hid (headK p.globals p.locks (pnames p.procs) 2 acc xs = acc) := Lib.hid (by simp [headK])
    have O1 := HO0
    have W2 := Lib.hid (HK.out.trans (Keep.of_below (S := fun _ => True) BW.out) (fun _ _ _ => trivial))
    have G1 : Hid (GrewAt go v v w _) := Lib.hid (GrewAt.of_below BW.out)
    have hz1 := BW.out.size
    clear HO0 C1 C2 CQ BX SB
    go_wp2_with fail
    refine (impl_ReadsOf_any t tk tn ts tA tm tc _ (TT.out.any.belowA BW.out)).mono ?_
    rintro e w2 ⟨vr, rfl, ownr⟩
    have hr2 := ownr.2
    have RR := Lib.hid (OwnB.of_strs ownr)
    have NE : Hid (∀ b, vr.ownBlock = some b → b ≠ go ∧ v.ownBlock ≠ some b) := Lib.hid (fun b hb => ⟨fun e => by have h1 := (ownr.inB b hb).1; have h2 := lt_of_block O1.out.at'; omega, fun e => by have h1 := (ownr.inB b hb).1; have h2 := (O1.out.own.lt b e).2; omega⟩)
    have O2 := Lib.hid (O1.out.keep hr2)
    have G2 := Lib.hid (G1.out.trans (GrewAt.of_below hr2))
    have W3 := Lib.hid (W2.out.trans (Keep.of_below (S := fun _ => True) hr2) (fun _ _ _ => trivial))
    obtain ⟨Ar, cr, rfl, _⟩ := ownr.slice
    have hcr := own_cap' ownr
    unfold maxLen at hcr
    generalize hRR : readsR t = R at *
    have HR := Lib.hid hRR
    clear hr2 ownr C0 CK hRR O1 G1 W2
    go_wp2_with fail
    go_loopw [7, 39] (fun nm i wi => ∃ m : Nat, m ≤ R.length ∧ i = .int .i64 m ∧ Hid (∃ vi, OutAt W1.heap.size go wi vi (readK p.globals acc (R.take m)) ∧ GrewAt go v vi w2 wi)) (fun _ i _ => R.length - (intOf i).toNat)
    case atStart => exact ⟨0, Nat.zero_le _, rfl, Lib.hid ⟨_, O2.out, GrewAt.refl _ _ _⟩⟩
    case round =>
      obtain ⟨m, hm, rfl, HI⟩ := hrel
      obtain ⟨vi, oi, gi⟩ := HI.out
      have OI := Lib.hid oi
      have GI := Lib.hid gi
      have hrk := readK_len p.globals acc (R.take m)
      have hrt : (R.take m).length ≤ R.length := by rw [List.length_take]; omega
      have WI := Lib.hid (W3.out.trans gi.keep (fun i hi h => ⟨h, fun e => by have := (O2.out.own.lt i e).1; omega⟩))
      clear oi gi
      by_cases hlt2 : m < R.length
      · obtain ⟨rb, ro, rfl, hcell⟩ := rd_str (Own.rd (RR.out.keep GI.out.keep NE.out).strs) hlt2
        have HT := Lib.hid (readK_take p.globals acc R m hlt2)
        have C0 := WI.out.cellEq (p := ⟨gp, 0, none⟩) EE.out.np (EE.out.gp1 0 _ rfl)
        have CK := WI.out.cellEq (p := ⟨gk, 0, none⟩) EE.out.nk EE.out.gk1
        have h0m : (0 : Int) ≤ (m : Int) := by omega
        have h1m : (m : Int) < (R.length : Int) := by omega
        simp only at C0 CK
        go_wp2_with fail
        refine (impl_look W1.heap.size go _ _ vi p.globals (readK p.globals acc (R.take m)) R[m] ((EE.out.prog WI.out).gs) OI.out (by omega)).mono ?_
        rintro e w6 ⟨rfl, v6, o6, g6⟩
        have O6 : Hid (∃ vi, OutAt W1.heap.size go w6 vi (readK p.globals acc (R.take (m + 1))) ∧ GrewAt go v vi w2 w6) := Lib.hid ⟨v6, by rw [HT.out]; exact o6, GI.out.trans g6⟩
        clear o6 g6 C0 CK hcell
        go_wp2_with fail
        go_roundw
        case rel => exact ⟨m + 1, by omega, by go_num, O6⟩
        case measure => simp [intOf]; omega
      · have TK : Hid (R.take m = R) := Lib.hid (List.take_of_length_le (by omega))
        go_wp2_with fail
        go_ret
        refine ⟨rfl, vi, ?_, G2.out.trans GI.out⟩
        rw [HM1.out, HR.out]
        have := OI.out
        rw [TK.out] at this
        exact this
  · skip
    go_enter Try.func72, Try.ntmps72
    have HM1 : Hid (headK p.globals p.locks (pnames p.procs) 3 acc xs = acc) := Lib.hid (by simp [headK])
    have O1 := HO0
    have W2 := Lib.hid (HK.out.trans (Keep.of_below (S := fun _ => True) BW.out) (fun _ _ _ => trivial))
    have G1 : Hid (GrewAt go v v w _) := Lib.hid (GrewAt.of_below BW.out)
    have hz1 := BW.out.size
    clear HO0 C1 C2 CQ BX SB
    go_wp2_with fail
    refine (impl_ReadsOf_any t tk tn ts tA tm tc _ (TT.out.any.belowA BW.out)).mono ?_
    rintro e w2 ⟨vr, rfl, ownr⟩
    have hr2 := ownr.2
    have RR := Lib.hid (OwnB.of_strs ownr)
    have NE : Hid (∀ b, vr.ownBlock = some b → b ≠ go ∧ v.ownBlock ≠ some b) := Lib.hid (fun b hb => ⟨fun e => by have h1 := (ownr.inB b hb).1; have h2 := lt_of_block O1.out.at'; omega, fun e => by have h1 := (ownr.inB b hb).1; have h2 := (O1.out.own.lt b e).2; omega⟩)
    have O2 := Lib.hid (O1.out.keep hr2)
    have G2 := Lib.hid (G1.out.trans (GrewAt.of_below hr2))
    have W3 := Lib.hid (W2.out.trans (Keep.of_below (S := fun _ => True) hr2) (fun _ _ _ => trivial))
    obtain ⟨Ar, cr, rfl, _⟩ := ownr.slice
    have hcr := own_cap' ownr
    unfold maxLen at hcr
    generalize hRR : readsR t = R at *
    have HR := Lib.hid hRR
    clear hr2 ownr C0 CK hRR O1 G1 W2
    go_wp2_with fail
    go_loopw [7, 39] (fun nm i wi => ∃ m : Nat, m ≤ R.length ∧ i = .int .i64 m ∧ Hid (∃ vi, OutAt W1.heap.size go wi vi (readK p.globals acc (R.take m)) ∧ GrewAt go v vi w2 wi)) (fun _ i _ => R.length - (intOf i).toNat)
    case atStart => exact ⟨0, Nat.zero_le _, rfl, Lib.hid ⟨_, O2.out, GrewAt.refl _ _ _⟩⟩
    case round =>
      obtain ⟨m, hm, rfl, HI⟩ := hrel
      obtain ⟨vi, oi, gi⟩ := HI.out
      have OI := Lib.hid oi
      have GI := Lib.hid gi
      have hrk := readK_len p.globals acc (R.take m)
      have hrt : (R.take m).length ≤ R.length := by rw [List.length_take]; omega
      have WI := Lib.hid (W3.out.trans gi.keep (fun i hi h => ⟨h, fun e => by have := (O2.out.own.lt i e).1; omega⟩))
      clear oi gi
      by_cases hlt2 : m < R.length
      · obtain ⟨rb, ro, rfl, hcell⟩ := rd_str (Own.rd (RR.out.keep GI.out.keep NE.out).strs) hlt2
        have HT := Lib.hid (readK_take p.globals acc R m hlt2)
        have C0 := WI.out.cellEq (p := ⟨gp, 0, none⟩) EE.out.np (EE.out.gp1 0 _ rfl)
        have CK := WI.out.cellEq (p := ⟨gk, 0, none⟩) EE.out.nk EE.out.gk1
        have h0m : (0 : Int) ≤ (m : Int) := by omega
        have h1m : (m : Int) < (R.length : Int) := by omega
        simp only at C0 CK
        go_wp2_with fail
        refine (impl_look W1.heap.size go _ _ vi p.globals (readK p.globals acc (R.take m)) R[m] ((EE.out.prog WI.out).gs) OI.out (by omega)).mono ?_
        rintro e w6 ⟨rfl, v6, o6, g6⟩
        have O6 : Hid (∃ vi, OutAt W1.heap.size go w6 vi (readK p.globals acc (R.take (m + 1))) ∧ GrewAt go v vi w2 w6) := Lib.hid ⟨v6, by rw [HT.out]; exact o6, GI.out.trans g6⟩
        clear o6 g6 C0 CK hcell
        go_wp2_with fail
        go_roundw
        case rel => exact ⟨m + 1, by omega, by go_num, O6⟩
        case measure => simp [intOf]; omega
      · have TK : Hid (R.take m = R) := Lib.hid (List.take_of_length_le (by omega))
        go_wp2_with fail
        go_ret
        refine ⟨rfl, vi, ?_, G2.out.trans GI.out⟩
        rw [HM1.out, HR.out]
        have := OI.out
        rw [TK.out] at this
        exact this
  · skip
    go_enter Try.func72, Try.ntmps72
    have HM1 : Hid (headK p.globals p.locks (pnames p.procs) xk acc xs = acc) := Lib.hid (by rw [beq_eq_false_iff_ne] at e1 e6 e7 e4 e5; simp [headK, e1, e6, e7, e4, e5])
    have O1 := HO0
    have W2 := Lib.hid (HK.out.trans (Keep.of_below (S := fun _ => True) BW.out) (fun _ _ _ => trivial))
    have G1 : Hid (GrewAt go v v w _) := Lib.hid (GrewAt.of_below BW.out)
    have hz1 := BW.out.size
    clear HO0 C1 C2 CQ BX SB
    go_wp2_with fail
    refine (impl_ReadsOf_any t tk tn ts tA tm tc _ (TT.out.any.belowA BW.out)).mono ?_
    rintro e w2 ⟨vr, rfl, ownr⟩
    have hr2 := ownr.2
    have RR := Lib.hid (OwnB.of_strs ownr)
    have NE : Hid (∀ b, vr.ownBlock = some b → b ≠ go ∧ v.ownBlock ≠ some b) := Lib.hid (fun b hb => ⟨fun e => by have h1 := (ownr.inB b hb).1; have h2 := lt_of_block O1.out.at'; omega, fun e => by have h1 := (ownr.inB b hb).1; have h2 := (O1.out.own.lt b e).2; omega⟩)
    have O2 := Lib.hid (O1.out.keep hr2)
    have G2 := Lib.hid (G1.out.trans (GrewAt.of_below hr2))
    have W3 := Lib.hid (W2.out.trans (Keep.of_below (S := fun _ => True) hr2) (fun _ _ _ => trivial))
    obtain ⟨Ar, cr, rfl, _⟩ := ownr.slice
    have hcr := own_cap' ownr
    unfold maxLen at hcr
    generalize hRR : readsR t = R at *
    have HR := Lib.hid hRR
    clear hr2 ownr C0 CK hRR O1 G1 W2
    go_wp2_with fail
    go_loopw [7, 39] (fun nm i wi => ∃ m : Nat, m ≤ R.length ∧ i = .int .i64 m ∧ Hid (∃ vi, OutAt W1.heap.size go wi vi (readK p.globals acc (R.take m)) ∧ GrewAt go v vi w2 wi)) (fun _ i _ => R.length - (intOf i).toNat)
    case atStart => exact ⟨0, Nat.zero_le _, rfl, Lib.hid ⟨_, O2.out, GrewAt.refl _ _ _⟩⟩
    case round =>
      obtain ⟨m, hm, rfl, HI⟩ := hrel
      obtain ⟨vi, oi, gi⟩ := HI.out
      have OI := Lib.hid oi
      have GI := Lib.hid gi
      have hrk := readK_len p.globals acc (R.take m)
      have hrt : (R.take m).length ≤ R.length := by rw [List.length_take]; omega
      have WI := Lib.hid (W3.out.trans gi.keep (fun i hi h => ⟨h, fun e => by have := (O2.out.own.lt i e).1; omega⟩))
      clear oi gi
      by_cases hlt2 : m < R.length
      · obtain ⟨rb, ro, rfl, hcell⟩ := rd_str (Own.rd (RR.out.keep GI.out.keep NE.out).strs) hlt2
        have HT := Lib.hid (readK_take p.globals acc R m hlt2)
        have C0 := WI.out.cellEq (p := ⟨gp, 0, none⟩) EE.out.np (EE.out.gp1 0 _ rfl)
        have CK := WI.out.cellEq (p := ⟨gk, 0, none⟩) EE.out.nk EE.out.gk1
        have h0m : (0 : Int) ≤ (m : Int) := by omega
        have h1m : (m : Int) < (R.length : Int) := by omega
        simp only at C0 CK
        go_wp2_with fail
        refine (impl_look W1.heap.size go _ _ vi p.globals (readK p.globals acc (R.take m)) R[m] ((EE.out.prog WI.out).gs) OI.out (by omega)).mono ?_
        rintro e w6 ⟨rfl, v6, o6, g6⟩
        have O6 : Hid (∃ vi, OutAt W1.heap.size go w6 vi (readK p.globals acc (R.take (m + 1))) ∧ GrewAt go v vi w2 w6) := Lib.hid ⟨v6, by rw [HT.out]; exact o6, GI.out.trans g6⟩
        clear o6 g6 C0 CK hcell
        go_wp2_with fail
        go_roundw
        case rel => exact ⟨m + 1, by omega, by go_num, O6⟩
        case measure => simp [intOf]; omega
      · have TK : Hid (R.take m = R) := Lib.hid (List.take_of_length_le (by omega))
        go_wp2_with fail
        go_ret
        refine ⟨rfl, vi, ?_, G2.out.trans GI.out⟩
        rw [HM1.out, HR.out]
        have := OI.out
        rw [TK.out] at this
        exact this
end Go.Proofs.Ytadcebdhgocmhaa
