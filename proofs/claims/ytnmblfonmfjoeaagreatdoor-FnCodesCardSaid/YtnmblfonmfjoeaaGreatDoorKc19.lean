/- Lemmas for the row. -/
import Derived.Test.YtnmblfonmfjoeaaGreatDoorKc18
namespace Go.Proofs.YtnmblfonmfjoeaaGreatDoor
open Go.RowKit
set_option maxHeartbeats 6400000
set_option linter.unusedVariables false
theorem spec_l07Procs (p : Pg) (x : V3) (w : World) (hp : PgIs w x p) (hb : p.procs.length ≤ 10000000) :
  Calls Tryz.prog 52 #[x.val p] w fun e w' => ∃ A' c', e = .returned (.slice A' (pnames p.procs).length c') ∧ OwnStrs w w' (.slice A' (pnames p.procs).length c') (pnames p.procs) := by
 obtain ⟨gs, ls, ps⟩ := p
 obtain ⟨gA, gc, lA, lc, pA, pc⟩ := x
 have RW := qh hp.p3
 have hpl := hp.p1
 have hpc := hp.p2
 simp only at RW hpl hpc hb
 unfold maxLen at hpc
 unfold V3.val
 simp only
 clear hp
 go_enter Tryz.func52, Tryz.ntmps52
 go_wp2_with fail
 go_loopw [3, 4] (fun lv i wr => ∃ k : Nat, k ≤ ps.length ∧ i = .int .i64 k ∧ wr.cell? ⟨w.heap.size, 2, none⟩ = some (.slice pA ps.length pc) ∧ ∃ A' c', lv = .slice A' (pnames (ps.take k)).length c' ∧ Hid (OwnStrs w wr (.slice A' (pnames (ps.take k)).length c') (pnames (ps.take k))) ∧ Hid (Sane 9 wr w.heap.size)) (fun _ i _ => ps.length - (intOf i).toNat)
 case atStart =>
  have OE : OwnStrs w ((w.alloc (.cells #[.slice gA gs.length gc, .slice lA ls.length lc, .slice pA ps.length pc] 27)).alloc (.cells #[] 9)) (.slice (some ⟨(w.alloc (.cells #[.slice gA gs.length gc, .slice lA ls.length lc, .slice pA ps.length pc] 27)).heap.size, 0, none⟩) 0 0) [] := OwnStrs.empty zB
  rw [show (w.alloc (.cells #[.slice gA gs.length gc, .slice lA ls.length lc, .slice pA ps.length pc] 27)).heap.size = w.heap.size + 1 from by simp] at OE
  have SE : Sane 9 ((w.alloc (.cells #[.slice gA gs.length gc, .slice lA ls.length lc, .slice pA ps.length pc] 27)).alloc (.cells #[] 9)) w.heap.size := sane_below (sane_new (by decide)) (by simp) (Below.alloc (Below.refl _ _) (Nat.le_refl _) _)
  exact ⟨0, Nat.zero_le _, rfl, by simp, _, _, rfl, qh OE, qh SE⟩
 case round =>
  obtain ⟨k, hk, rfl, x2, A', c', rfl, HO, HS⟩ := hrel
  have hnl := pnames_len (ps.take k)
  by_cases hlt : k < ps.length
  ·obtain ⟨b, off, x, rfl, d0, d1, hpr⟩ := rd_proc (RW.out.belowA HO.out.2) hlt
   have hlb := cell_lt d0
   have HN : Hid (pnames (ps.take (k + 1)) = pnames (ps.take k) ++ [x.s]) := qh (by
    have e : ps.take (k + 1) = ps.take k ++ [ps[k]] := List.take_succ_eq_append_getElem hlt
    rw [e, ← hpr.1]; unfold pnames; rw [List.map_append]; rfl)
   have h0k : (0 : Int) ≤ (k : Int) := by omega
   have hkl : (pnames (ps.take k)).length ≤ 10000000 := by rw [hnl, List.length_take]; omega
   have X2 := qh x2
   clear hpr hnl
   go_wp2_with (at_builtin; refine wpList_appG_new wr.heap.size rfl rfl _ _ _ rfl strT HO.out _ 1 rfl rfl rfl (by simp [Value.oneCell']) (by simp only [maxLen]; omega) (by omega) ?_; intro v2 w2 own2 gr2; have O2 : Hid (OwnStrs w w2 v2 (pnames (ps.take (k + 1)))) := qh (by rw [HN.out]; unfold OwnStrs; rw [List.length_append, ← map_snoc]; exact own2); have Z2 := qh ((gr2.keepT HO.out).cellT HS.out X2.out); have S2 := qh (sane_keep HS.out (cell_lt X2.out) (gr2.keepT HO.out)); obtain ⟨A2, c2, rfl, _⟩ := O2.out.slice; clear own2 gr2)
   go_roundw
   case rel => exact ⟨k + 1, by omega, by go_num, Z2.out, A2, c2, rfl, O2, S2⟩
   case measure => simp [intOf]; omega
  ·go_wp2_with fail
   go_ret
   have := HO.out
   rw [List.take_of_length_le (by omega)] at this ⊢
   exact ⟨_, _, rfl, this⟩
abbrev UkC (l : List St) : Prop := ∀ (p : Pg) (x : V3) (A : Option Addr) (c : Nat) (w0 w : World) (v : Value) (acc : List ByteArray), PgIs w0 x p → StRow AnyB w0 A l → OwnStrs w0 w v acc → l.length ≤ c → c ≤ maxLen → quietGs l → p.procs.length ≤ 10000000 → acc.length + 2 * totGs l ≤ 10000000 → totGs l ≤ 1048577 →
 Calls Tryz.prog 84 #[x.val p, .slice A l.length c, v] w fun e w' => ∃ v', e = .returned v' ∧ OwnStrs w0 w' v' (unkGs p.globals p.locks (pnames p.procs) acc l) ∧ KeepT 9 w w'
theorem kind_cases (k : Int) : k = 1 ∨ k = 6 ∨ k = 7 ∨ k = 4 ∨ k = 5 ∨ k = 2 ∨ k = 3 ∨ ((k == 1) = false ∧ (k == 6) = false ∧ (k == 7) = false ∧ (k == 4) = false ∧ (k == 5) = false ∧ (k == 2) = false ∧ (k == 3) = false) := by
 simp only [beq_eq_false_iff_ne]; omega
set_option maxRecDepth 100000 in
theorem spec_l07Unknown_at (l : List St) (ih : ∀ g ∈ l, ∀ t k s body els, g = .mk k s t body els → UkC body ∧ UkC els) : UkC l := by
 intro p x A c w0 w v acc hp row own hl hc hq hpn hbd htot
 unfold maxLen at hc
 obtain ⟨gA, gc, lA, lc, pA, pc⟩ := x
 have IH := qh ih
 have RW := qh row
 have OW := qh own
 have HP := qh hp
 have HQ := qh hq
 obtain ⟨A0, c0, rfl, hl0⟩ := own.slice
 unfold V3.val
 simp only
 clear ih row own hp hq
 go_enter Tryz.func84, Tryz.ntmps84
 go_wp2_with fail
 go_loopw [2, 7] (fun lv i wr => ∃ j : Nat, j ≤ l.length ∧ i = .int .i64 j ∧ ∃ A' c', lv = .slice A' (unkGs p.globals p.locks (pnames p.procs) acc (l.take j)).length c' ∧ Hid (OwnStrs w0 wr (.slice A' (unkGs p.globals p.locks (pnames p.procs) acc (l.take j)).length c') (unkGs p.globals p.locks (pnames p.procs) acc (l.take j)) ∧ KeepT 9 w wr ∧ BoxB wr w.heap.size [.slice gA p.globals.length gc, .slice lA p.locks.length lc, .slice pA p.procs.length pc] ∧ Sane 9 wr w.heap.size)) (fun _ i _ => l.length - (intOf i).toNat)
 case atStart => exact ⟨0, Nat.zero_le _, rfl, A0, c0, rfl, qh ⟨OW.out.alloc _, KeepT.of_below' zB, BoxB.lit rfl, sane_new (by decide)⟩⟩
 case round =>
  obtain ⟨j, hj, rfl, A', c', rfl, HO⟩ := hrel
  rename World => wq
  by_cases hlt : j < l.length
  case neg =>
   go_wp2_with fail
   go_ret
   have := HO.out
   rw [List.take_of_length_le (by omega)] at this ⊢
   exact ⟨_, rfl, this.1, this.2.1⟩
  obtain ⟨b, off, x, rfl, _, ⟨d0, d1, d2, d3, d4, d5, d6, d7⟩, hg⟩ := rd_stmt RW.out hlt
  replace d0 := cell_keep HO.out.1.2 d0
  replace d1 := cell_keep HO.out.1.2 d1
  replace d2 := cell_keep HO.out.1.2 d2
  replace d3 := cell_keep HO.out.1.2 d3
  replace d4 := cell_keep HO.out.1.2 d4
  replace d5 := cell_keep HO.out.1.2 d5
  replace d6 := cell_keep HO.out.1.2 d6
  replace d7 := cell_keep HO.out.1.2 d7
  obtain ⟨t, body, els, heq, _, _, ht, hb1, hb2, hb3, rb, he1, he2, he3, re⟩ := hg.inv
  have vb := (IH.out l[j] (List.getElem_mem hlt) t _ _ body els heq).1 p ⟨gA, gc, lA, lc, pA, pc⟩
  have ve := (IH.out l[j] (List.getElem_mem hlt) t _ _ body els heq).2 p ⟨gA, gc, lA, lc, pA, pc⟩
  simp only [V3.val] at vb ve
  have VB := qh vb
  have VE := qh ve
  clear vb ve
  have hsp := totGs_split l j hlt
  have htg : totG l[j] = x.s.size + totT t + totGs body + totGs els := by rw [heq, totG]
  have hnl := unkGs_len p.globals p.locks (pnames p.procs) acc (l.take j)
  have HN := qh (unkGs_take p.globals p.locks (pnames p.procs) acc l j hlt)
  have hqg := quietGs_mem HQ.out (List.getElem_mem hlt)
  rw [heq, unkG_mk] at HN
  rw [heq, quietG] at hqg
  have QK := qh hqg.1
  have QB := qh hqg.2.1
  have QE := qh hqg.2.2
  have RB := qh rb
  have RE := qh re
  have TT := qh ht
  have hrl := readsR_len t
  have hnt := nodes_tot t
  obtain ⟨xk, xs, tk, tn, ts, tA, tm, tc, bA, bm, bc, eA, em, ec⟩ := x
  simp only [V8.term] at hb1 he1 hb2 hb3 he2 he3 d0 d1 d2 d3 d4 d5 d6 d7 RB RE HN QK htg TT
  subst hb1 he1
  have h0k : (0 : Int) ≤ (j : Int) := by omega
  have hlb := cell_lt d0
  clear heq hg rb re hqg ht
  generalize hacc : unkGs p.globals p.locks (pnames p.procs) acc (l.take j) = aj at *
  clear hacc
  have C0 := HO.out.2.2.1 0 _ rfl
  have C1 := HO.out.2.2.1 1 _ rfl
  have C2 := HO.out.2.2.1 2 _ rfl
  have hwl := cell_lt C0
  simp only at hwl
  have PX : Hid (BoxB wq w.heap.size [.slice gA p.globals.length gc, .slice lA p.locks.length lc, .slice pA p.procs.length pc]) := qh HO.out.2.2.1
  have SX : Hid (Sane 9 wq w.heap.size) := qh HO.out.2.2.2
  have BX : Hid (BoxB (wq.alloc (.cells #[.int .i64 xk, .string xs, .int .i64 tk, .int .i64 tn, .string ts, .slice tA tm tc, .slice bA body.length bc, .slice eA els.length ec] 71)) wq.heap.size [.int .i64 xk, .string xs, .int .i64 tk, .int .i64 tn, .string ts, .slice tA tm tc, .slice bA body.length bc, .slice eA els.length ec]) := qh (BoxB.lit rfl)
  have SB : Hid (Sane 9 (wq.alloc (.cells #[.int .i64 xk, .string xs, .int .i64 tk, .int .i64 tn, .string ts, .slice tA tm tc, .slice bA body.length bc, .slice eA els.length ec] 71)) wq.heap.size) := qh (sane_new (by decide))
  have PB : Hid (BoxB (wq.alloc (.cells #[.int .i64 xk, .string xs, .int .i64 tk, .int .i64 tn, .string ts, .slice tA tm tc, .slice bA body.length bc, .slice eA els.length ec] 71)) w.heap.size [.slice gA p.globals.length gc, .slice lA p.locks.length lc, .slice pA p.procs.length pc]) := qh (HO.out.2.2.1.below (Below.alloc (Below.refl _ _) (Nat.le_refl _) _))
  have SP : Hid (Sane 9 (wq.alloc (.cells #[.int .i64 xk, .string xs, .int .i64 tk, .int .i64 tn, .string ts, .slice tA tm tc, .slice bA body.length bc, .slice eA els.length ec] 71)) w.heap.size) := qh (sane_below HO.out.2.2.2 hwl (Below.alloc (Below.refl _ _) (Nat.le_refl _) _))
  have OB : Hid (OwnStrs w0 (wq.alloc (.cells #[.int .i64 xk, .string xs, .int .i64 tk, .int .i64 tn, .string ts, .slice tA tm tc, .slice bA body.length bc, .slice eA els.length ec] 71)) (.slice A' aj.length c') aj) := qh (HO.out.1.alloc _)
  have KB : Hid (KeepT 9 w (wq.alloc (.cells #[.int .i64 xk, .string xs, .int .i64 tk, .int .i64 tn, .string ts, .slice tA tm tc, .slice bA body.length bc, .slice eA els.length ec] 71))) := qh (HO.out.2.1.trans' (KeepT.of_below' (Below.alloc (Below.refl _ _) (Nat.le_refl _) _)))
  clear HO
  rcases kind_cases xk with rfl | rfl | rfl | rfl | rfl | rfl | rfl | ⟨e1, e6, e7, e4, e5, e2, e3⟩
  ·skip
   go_wp2_with fail
   refine (spec_l07Add w0 _ _ _ aj p.globals xs OB.out ((HP.out.belowA OB.out.2).gs) (by omega)).mono ?_
   rintro e w1 ⟨v1, rfl, own1, gr1⟩
   have OM : Hid (OwnStrs w0 w1 v1 (addUnk p.globals aj xs)) := qh own1
   have KT1 := gr1.keepT OB.out
   have KM := qh (KB.out.trans' KT1)
   have hml : (addUnk p.globals aj xs).length ≤ aj.length + 1 := addUnk_len _ _ _
   have HM1 : Hid (headK p.globals p.locks (pnames p.procs) 1 aj xs = addUnk p.globals aj xs) := qh (by simp [headK])
   have PM := qh (PB.out.keepS KT1 SP.out)
   have BM := qh (BX.out.keepS KT1 SB.out)
   have zM := KT1.size
   have SPM := qh (sane_keep SP.out (by simp; omega) KT1)
   have SBM := qh (sane_keep SB.out (by simp) KT1)
   have hz1 : wq.heap.size < w1.heap.size := by simp at zM; omega
   obtain ⟨A1, c1, rfl, _⟩ := own1.slice
   clear own1 gr1 KT1 OB PB BX SP SB KB zM C0 C1 C2
   have p0 : w1.cell? ⟨w.heap.size, 0, none⟩ = some (.slice gA p.globals.length gc) := PM.out 0 _ rfl
   have p1 : w1.cell? ⟨w.heap.size, 1, none⟩ = some (.slice lA p.locks.length lc) := PM.out 1 _ rfl
   have p2 : w1.cell? ⟨w.heap.size, 2, none⟩ = some (.slice pA p.procs.length pc) := PM.out 2 _ rfl
   have q0 : w1.cell? ⟨wq.heap.size, 0, none⟩ = some (.int .i64 1) := BM.out 0 _ rfl
   have q1 : w1.cell? ⟨wq.heap.size, 1, none⟩ = some (.string xs) := BM.out 1 _ rfl
   have q2 : w1.cell? ⟨wq.heap.size, 2, none⟩ = some (.int .i64 tk) := BM.out 2 _ rfl
   have q3 : w1.cell? ⟨wq.heap.size, 3, none⟩ = some (.int .i64 tn) := BM.out 3 _ rfl
   have q4 : w1.cell? ⟨wq.heap.size, 4, none⟩ = some (.string ts) := BM.out 4 _ rfl
   have q5 : w1.cell? ⟨wq.heap.size, 5, none⟩ = some (.slice tA tm tc) := BM.out 5 _ rfl
   have q6 : w1.cell? ⟨wq.heap.size, 6, none⟩ = some (.slice bA body.length bc) := BM.out 6 _ rfl
   have q7 : w1.cell? ⟨wq.heap.size, 7, none⟩ = some (.slice eA els.length ec) := BM.out 7 _ rfl
   go_wp2_with fail
   refine (spec_ReadsOf t tk tn ts tA tm tc _ ((TT.out.belowA OM.out.2)) (by omega)).mono ?_
   rintro e w2 ⟨vr, rfl, ownr⟩
   have hr2 := ownr.2
   have RR : Hid (OwnStrs w0 w2 vr (readsR t)) := qh (ownr.base OM.out.2)
   have NE : Hid (∀ b, vr.ownBlock = some b → (Value.slice A1 (addUnk p.globals aj xs).length c1).ownBlock ≠ some b) := qh (fun b hb e => by have h1 := (ownr.inB b hb).1; have h2 := (OM.out.inB b e).2; omega)
   have O2 := qh (OM.out.below hr2)
   have K2 := qh (KM.out.trans' (KeepT.of_below' hr2))
   have P2 := qh (PM.out.below hr2)
   have B2 := qh (BM.out.below hr2)
   have SP2 := qh (sane_below SPM.out (by first | omega | (simp; omega)) hr2)
   have SB2 := qh (sane_below SBM.out (by first | omega | simp) hr2)
   have hz2 : wq.heap.size < w2.heap.size := by have := hr2.size; first | omega | (simp at this; omega)
   obtain ⟨Ar, cr, rfl, _⟩ := ownr.slice
   have hcr := own_cap' ownr
   unfold maxLen at hcr
   generalize hRR : readsR t = R at *
   clear hr2 ownr OM KM PM BM SPM SBM p0 p1 p2 q0 q1 q2 q3 q4 q5 q6 q7 hRR
   go_wp2_with fail
   go_loopw [2, 10] (fun lv i wr => ∃ m : Nat, m ≤ R.length ∧ i = .int .i64 m ∧ ∃ A5 c5, lv = .slice A5 (readK p.globals (addUnk p.globals aj xs) (R.take m)).length c5 ∧ Hid (OwnStrs w0 wr (.slice A5 (readK p.globals (addUnk p.globals aj xs) (R.take m)).length c5) (readK p.globals (addUnk p.globals aj xs) (R.take m)) ∧ Grew (.slice A1 (addUnk p.globals aj xs).length c1) (.slice A5 (readK p.globals (addUnk p.globals aj xs) (R.take m)).length c5) w2 wr)) (fun _ i _ => R.length - (intOf i).toNat)
   case atStart => exact ⟨0, Nat.zero_le _, rfl, A1, c1, rfl, qh ⟨O2.out, Grew.refl _ _⟩⟩
   case round =>
    obtain ⟨m, hm, rfl, A5, c5, rfl, HI⟩ := hrel
    have KI := qh (HI.out.2.keepT O2.out)
    have hrk := readK_len p.globals (addUnk p.globals aj xs) (R.take m)
    have hrt : (R.take m).length ≤ R.length := by rw [List.length_take]; omega
    have p0 := (P2.out.keepS KI.out SP2.out) 0 _ rfl
    by_cases hlt2 : m < R.length
    ·obtain ⟨rb, ro, rfl, hcell⟩ := rd_str (Own.rd (RR.out.grew HI.out.2 NE.out (fun b e => (O2.out.inB b e).1))) hlt2
     have HT := qh (readK_take p.globals (addUnk p.globals aj xs) R m hlt2)
     have h0m : (0 : Int) ≤ (m : Int) := by omega
     have h1m : (m : Int) < (R.length : Int) := by omega
     have SPI := qh (sane_keep SP2.out (by have := K2.out.size; omega) KI.out)
     have NB : Hid ((Value.slice A5 (readK p.globals (addUnk p.globals aj xs) (R.take m)).length c5).ownBlock ≠ some rb) := qh (fun e => by
      rcases HI.out.2.lies with h1 | ⟨g, h1, h2⟩
      ·exact NE.out rb rfl (h1.symm.trans e)
      ·rw [h1] at e; injection e with e
       have := (RR.out.inB rb rfl).2; omega)
     have CI := qh hcell
     have PI0 := qh p0
     go_wp2_with fail
     go_region_held3 (fun w' => w'.cell? ⟨w.heap.size, 0, none⟩ = some (.slice gA p.globals.length gc) ∧ w'.cell? ⟨rb, ro + m, none⟩ = some (.string R[m])) (first | go_keep | exact ⟨gr6.keep.cellEq (Own.neT HI.out.1 SPI.out) PI0.out, gr6.keep.cellEq NB.out CI.out⟩)
      ((go_at_call 102; (refine (spec_l07Add w0 _ _ _ (readK p.globals (addUnk p.globals aj xs) (R.take m)) p.globals R[m] (by exact HI.out.1.drew) (by exact (HP.out.belowA HI.out.1.2).gs.below (Below.refl _ _).drew) (by omega)).mono ?_); rintro e w6 ⟨v6, rfl, own6, gr6⟩))
     have O6 := qh (And.intro (by rw [HT.out]; exact own6 : OwnStrs w0 w6 v6 (readK p.globals (addUnk p.globals aj xs) (R.take (m + 1)))) (HI.out.2.trans ((Grew.of_below (Below.refl _ _).drew).trans gr6)))
     obtain ⟨A6, c6, rfl, _⟩ := O6.out.1.slice
     clear own6 gr6 p0 hcell
     go_wp2_with fail
     go_roundw
     case rel => exact ⟨m + 1, by omega, by go_num, A6, c6, rfl, O6⟩
     case measure => simp [intOf]; omega
    ·have TK : Hid (R.take m = R) := qh (List.take_of_length_le (by omega))
     have BI := qh (B2.out.keepS KI.out SB2.out)
     have PJ := qh (P2.out.keepS KI.out SP2.out)
     have SJ := qh (sane_keep SP2.out (by have := K2.out.size; omega) KI.out)
     have SL := qh (sane_keep SB2.out (by omega) KI.out)
     have hzi : wq.heap.size < wr.heap.size := by have := KI.out.size; omega
     have KJ := qh (K2.out.trans' KI.out)
     have OJ := qh HI.out.1
     clear p0 HI KI O2 K2 P2 B2 SP2 SB2 NE RR
     have q3 : wr.cell? ⟨wq.heap.size, 6, none⟩ = some (.slice bA body.length bc) := BI.out 6 _ rfl
     have p0 : wr.cell? ⟨w.heap.size, 0, none⟩ = some (.slice gA p.globals.length gc) := PJ.out 0 _ rfl
     have p1 : wr.cell? ⟨w.heap.size, 1, none⟩ = some (.slice lA p.locks.length lc) := PJ.out 1 _ rfl
     have p2 : wr.cell? ⟨w.heap.size, 2, none⟩ = some (.slice pA p.procs.length pc) := PJ.out 2 _ rfl
     go_wp2_with fail
     (with_reducible refine (VB.out bA bc w0 _ _ _ HP.out RB.out OJ.out hb2 hb3 QB.out hpn (by omega) (by omega)).mono ?_)
     rintro e w8 ⟨v8, rfl, own8, kp8⟩
     have O8 := qh own8
     have hl8 := unkGs_len p.globals p.locks (pnames p.procs) (readK p.globals (addUnk p.globals aj xs) (R.take m)) body
     have K8 := qh (KJ.out.trans' kp8)
     have B8 := BI.out.keepS kp8 SL.out
     have P8 := qh (PJ.out.keepS kp8 SJ.out)
     have S8 := qh (sane_keep SJ.out (by first | (have := KJ.out.size; omega) | (simp; omega)) kp8)
     have q7 : w8.cell? ⟨wq.heap.size, 7, none⟩ = some (.slice eA els.length ec) := B8 7 _ rfl
     have p0 : w8.cell? ⟨w.heap.size, 0, none⟩ = some (.slice gA p.globals.length gc) := P8.out 0 _ rfl
     have p1 : w8.cell? ⟨w.heap.size, 1, none⟩ = some (.slice lA p.locks.length lc) := P8.out 1 _ rfl
     have p2 : w8.cell? ⟨w.heap.size, 2, none⟩ = some (.slice pA p.procs.length pc) := P8.out 2 _ rfl
     obtain ⟨A8, c8, rfl, _⟩ := own8.slice
     clear own8 B8 BI PJ SJ SL OJ KJ q3
     go_wp2_with fail
     (with_reducible refine (VE.out eA ec w0 _ _ _ HP.out RE.out O8.out he2 he3 QE.out hpn (by omega) (by omega)).mono ?_)
     rintro e w9 ⟨v9, rfl, own9, kp9⟩
     rw [show unkGs p.globals p.locks (pnames p.procs) (unkGs p.globals p.locks (pnames p.procs) (readK p.globals (addUnk p.globals aj xs) (R.take m)) body) els = unkGs p.globals p.locks (pnames p.procs) acc (l.take (j + 1)) from by rw [HN.out, HM1.out]; rw [TK.out]] at own9
     have O9 := qh (And.intro own9 (And.intro (K8.out.trans' kp9) (And.intro (P8.out.keepS kp9 S8.out) (sane_keep S8.out (cell_lt p0) kp9))))
     obtain ⟨A9, c9, rfl, _⟩ := own9.slice
     clear own9 kp9 kp8 p0 p1 p2 q7
     go_wp2_with fail
     go_roundw
     case rel => exact ⟨j + 1, by omega, by go_num, A9, c9, rfl, O9⟩
     case measure => simp [intOf]; omega
     
  ·skip
   go_wp2_with fail
   refine (spec_l07Add w0 _ _ _ aj p.locks xs OB.out ((HP.out.belowA OB.out.2).ls) (by omega)).mono ?_
   rintro e w1 ⟨v1, rfl, own1, gr1⟩
   have OM : Hid (OwnStrs w0 w1 v1 (addUnk p.locks aj xs)) := qh own1
   have KT1 := gr1.keepT OB.out
   have KM := qh (KB.out.trans' KT1)
   have hml : (addUnk p.locks aj xs).length ≤ aj.length + 1 := addUnk_len _ _ _
   have HM1 : Hid (headK p.globals p.locks (pnames p.procs) 6 aj xs = addUnk p.locks aj xs) := qh (by simp [headK])
   have PM := qh (PB.out.keepS KT1 SP.out)
   have BM := qh (BX.out.keepS KT1 SB.out)
   have zM := KT1.size
   have SPM := qh (sane_keep SP.out (by simp; omega) KT1)
   have SBM := qh (sane_keep SB.out (by simp) KT1)
   have hz1 : wq.heap.size < w1.heap.size := by simp at zM; omega
   obtain ⟨A1, c1, rfl, _⟩ := own1.slice
   clear own1 gr1 KT1 OB PB BX SP SB KB zM C0 C1 C2
   have OJ := OM
   have KJ := KM
   have PJ := PM
   have BI := BM
   have SJ := SPM
   have SL := SBM
   clear OM KM PM BM SPM SBM
   have QN := qh (QK.out (by decide) (by decide) (by decide))
   have p0 : w1.cell? ⟨w.heap.size, 0, none⟩ = some (.slice gA p.globals.length gc) := PJ.out 0 _ rfl
   have p1 : w1.cell? ⟨w.heap.size, 1, none⟩ = some (.slice lA p.locks.length lc) := PJ.out 1 _ rfl
   have p2 : w1.cell? ⟨w.heap.size, 2, none⟩ = some (.slice pA p.procs.length pc) := PJ.out 2 _ rfl
   have q0 : w1.cell? ⟨wq.heap.size, 0, none⟩ = some (.int .i64 6) := BI.out 0 _ rfl
   have q1 : w1.cell? ⟨wq.heap.size, 1, none⟩ = some (.string xs) := BI.out 1 _ rfl
   have q2 : w1.cell? ⟨wq.heap.size, 2, none⟩ = some (.int .i64 tk) := BI.out 2 _ rfl
   have q33 : w1.cell? ⟨wq.heap.size, 3, none⟩ = some (.int .i64 tn) := BI.out 3 _ rfl
   have q4 : w1.cell? ⟨wq.heap.size, 4, none⟩ = some (.string ts) := BI.out 4 _ rfl
   have q5 : w1.cell? ⟨wq.heap.size, 5, none⟩ = some (.slice tA tm tc) := BI.out 5 _ rfl
   have q6 : w1.cell? ⟨wq.heap.size, 6, none⟩ = some (.slice bA body.length bc) := BI.out 6 _ rfl
   have q7 : w1.cell? ⟨wq.heap.size, 7, none⟩ = some (.slice eA els.length ec) := BI.out 7 _ rfl
   clear p0 p1 p2
   have q3 : w1.cell? ⟨wq.heap.size, 6, none⟩ = some (.slice bA body.length bc) := BI.out 6 _ rfl
   have p0 : w1.cell? ⟨w.heap.size, 0, none⟩ = some (.slice gA p.globals.length gc) := PJ.out 0 _ rfl
   have p1 : w1.cell? ⟨w.heap.size, 1, none⟩ = some (.slice lA p.locks.length lc) := PJ.out 1 _ rfl
   have p2 : w1.cell? ⟨w.heap.size, 2, none⟩ = some (.slice pA p.procs.length pc) := PJ.out 2 _ rfl
   go_wp2_with fail
   (with_reducible refine (VB.out bA bc w0 _ _ _ HP.out RB.out OJ.out hb2 hb3 QB.out hpn (by omega) (by omega)).mono ?_)
   rintro e w8 ⟨v8, rfl, own8, kp8⟩
   have O8 := qh own8
   have hl8 := unkGs_len p.globals p.locks (pnames p.procs) (addUnk p.locks aj xs) body
   have K8 := qh (KJ.out.trans' kp8)
   have B8 := BI.out.keepS kp8 SL.out
   have P8 := qh (PJ.out.keepS kp8 SJ.out)
   have S8 := qh (sane_keep SJ.out (by first | (have := KJ.out.size; omega) | (simp; omega)) kp8)
   clear q7
   have q7 : w8.cell? ⟨wq.heap.size, 7, none⟩ = some (.slice eA els.length ec) := B8 7 _ rfl
   clear p0 p1 p2
   have p0 : w8.cell? ⟨w.heap.size, 0, none⟩ = some (.slice gA p.globals.length gc) := P8.out 0 _ rfl
   have p1 : w8.cell? ⟨w.heap.size, 1, none⟩ = some (.slice lA p.locks.length lc) := P8.out 1 _ rfl
   have p2 : w8.cell? ⟨w.heap.size, 2, none⟩ = some (.slice pA p.procs.length pc) := P8.out 2 _ rfl
   obtain ⟨A8, c8, rfl, _⟩ := own8.slice
   clear own8 B8 q0 q1 q2 q33 q4 q5 q6 BI PJ SJ SL OJ KJ q3
   go_wp2_with fail
   (with_reducible refine (VE.out eA ec w0 _ _ _ HP.out RE.out O8.out he2 he3 QE.out hpn (by omega) (by omega)).mono ?_)
   rintro e w9 ⟨v9, rfl, own9, kp9⟩
   rw [show unkGs p.globals p.locks (pnames p.procs) (unkGs p.globals p.locks (pnames p.procs) (addUnk p.locks aj xs) body) els = unkGs p.globals p.locks (pnames p.procs) acc (l.take (j + 1)) from by rw [HN.out, HM1.out]; rw [QN.out, readK_nil]] at own9
   have O9 := qh (And.intro own9 (And.intro (K8.out.trans' kp9) (And.intro (P8.out.keepS kp9 S8.out) (sane_keep S8.out (cell_lt p0) kp9))))
   obtain ⟨A9, c9, rfl, _⟩ := own9.slice
   clear own9 kp9 kp8 p0 p1 p2 q7
   go_wp2_with fail
   go_roundw
   case rel => exact ⟨j + 1, by omega, by go_num, A9, c9, rfl, O9⟩
   case measure => simp [intOf]; omega
  ·skip
   go_wp2_with fail
   refine (spec_l07Add w0 _ _ _ aj p.locks xs OB.out ((HP.out.belowA OB.out.2).ls) (by omega)).mono ?_
   rintro e w1 ⟨v1, rfl, own1, gr1⟩
   have OM : Hid (OwnStrs w0 w1 v1 (addUnk p.locks aj xs)) := qh own1
   have KT1 := gr1.keepT OB.out
   have KM := qh (KB.out.trans' KT1)
   have hml : (addUnk p.locks aj xs).length ≤ aj.length + 1 := addUnk_len _ _ _
   have HM1 : Hid (headK p.globals p.locks (pnames p.procs) 7 aj xs = addUnk p.locks aj xs) := qh (by simp [headK])
   have PM := qh (PB.out.keepS KT1 SP.out)
   have BM := qh (BX.out.keepS KT1 SB.out)
   have zM := KT1.size
   have SPM := qh (sane_keep SP.out (by simp; omega) KT1)
   have SBM := qh (sane_keep SB.out (by simp) KT1)
   have hz1 : wq.heap.size < w1.heap.size := by simp at zM; omega
   obtain ⟨A1, c1, rfl, _⟩ := own1.slice
   clear own1 gr1 KT1 OB PB BX SP SB KB zM C0 C1 C2
   have OJ := OM
   have KJ := KM
   have PJ := PM
   have BI := BM
   have SJ := SPM
   have SL := SBM
   clear OM KM PM BM SPM SBM
   have QN := qh (QK.out (by decide) (by decide) (by decide))
   have p0 : w1.cell? ⟨w.heap.size, 0, none⟩ = some (.slice gA p.globals.length gc) := PJ.out 0 _ rfl
   have p1 : w1.cell? ⟨w.heap.size, 1, none⟩ = some (.slice lA p.locks.length lc) := PJ.out 1 _ rfl
   have p2 : w1.cell? ⟨w.heap.size, 2, none⟩ = some (.slice pA p.procs.length pc) := PJ.out 2 _ rfl
   have q0 : w1.cell? ⟨wq.heap.size, 0, none⟩ = some (.int .i64 7) := BI.out 0 _ rfl
   have q1 : w1.cell? ⟨wq.heap.size, 1, none⟩ = some (.string xs) := BI.out 1 _ rfl
   have q2 : w1.cell? ⟨wq.heap.size, 2, none⟩ = some (.int .i64 tk) := BI.out 2 _ rfl
   have q33 : w1.cell? ⟨wq.heap.size, 3, none⟩ = some (.int .i64 tn) := BI.out 3 _ rfl
   have q4 : w1.cell? ⟨wq.heap.size, 4, none⟩ = some (.string ts) := BI.out 4 _ rfl
   have q5 : w1.cell? ⟨wq.heap.size, 5, none⟩ = some (.slice tA tm tc) := BI.out 5 _ rfl
   have q6 : w1.cell? ⟨wq.heap.size, 6, none⟩ = some (.slice bA body.length bc) := BI.out 6 _ rfl
   have q7 : w1.cell? ⟨wq.heap.size, 7, none⟩ = some (.slice eA els.length ec) := BI.out 7 _ rfl
   clear p0 p1 p2
   have q3 : w1.cell? ⟨wq.heap.size, 6, none⟩ = some (.slice bA body.length bc) := BI.out 6 _ rfl
   have p0 : w1.cell? ⟨w.heap.size, 0, none⟩ = some (.slice gA p.globals.length gc) := PJ.out 0 _ rfl
   have p1 : w1.cell? ⟨w.heap.size, 1, none⟩ = some (.slice lA p.locks.length lc) := PJ.out 1 _ rfl
   have p2 : w1.cell? ⟨w.heap.size, 2, none⟩ = some (.slice pA p.procs.length pc) := PJ.out 2 _ rfl
   go_wp2_with fail
   (with_reducible refine (VB.out bA bc w0 _ _ _ HP.out RB.out OJ.out hb2 hb3 QB.out hpn (by omega) (by omega)).mono ?_)
   rintro e w8 ⟨v8, rfl, own8, kp8⟩
   have O8 := qh own8
   have hl8 := unkGs_len p.globals p.locks (pnames p.procs) (addUnk p.locks aj xs) body
   have K8 := qh (KJ.out.trans' kp8)
   have B8 := BI.out.keepS kp8 SL.out
   have P8 := qh (PJ.out.keepS kp8 SJ.out)
   have S8 := qh (sane_keep SJ.out (by first | (have := KJ.out.size; omega) | (simp; omega)) kp8)
   clear q7
   have q7 : w8.cell? ⟨wq.heap.size, 7, none⟩ = some (.slice eA els.length ec) := B8 7 _ rfl
   clear p0 p1 p2
   have p0 : w8.cell? ⟨w.heap.size, 0, none⟩ = some (.slice gA p.globals.length gc) := P8.out 0 _ rfl
   have p1 : w8.cell? ⟨w.heap.size, 1, none⟩ = some (.slice lA p.locks.length lc) := P8.out 1 _ rfl
   have p2 : w8.cell? ⟨w.heap.size, 2, none⟩ = some (.slice pA p.procs.length pc) := P8.out 2 _ rfl
   obtain ⟨A8, c8, rfl, _⟩ := own8.slice
   clear own8 B8 q0 q1 q2 q33 q4 q5 q6 BI PJ SJ SL OJ KJ q3
   go_wp2_with fail
   (with_reducible refine (VE.out eA ec w0 _ _ _ HP.out RE.out O8.out he2 he3 QE.out hpn (by omega) (by omega)).mono ?_)
   rintro e w9 ⟨v9, rfl, own9, kp9⟩
   rw [show unkGs p.globals p.locks (pnames p.procs) (unkGs p.globals p.locks (pnames p.procs) (addUnk p.locks aj xs) body) els = unkGs p.globals p.locks (pnames p.procs) acc (l.take (j + 1)) from by rw [HN.out, HM1.out]; rw [QN.out, readK_nil]] at own9
   have O9 := qh (And.intro own9 (And.intro (K8.out.trans' kp9) (And.intro (P8.out.keepS kp9 S8.out) (sane_keep S8.out (cell_lt p0) kp9))))
   obtain ⟨A9, c9, rfl, _⟩ := own9.slice
   clear own9 kp9 kp8 p0 p1 p2 q7
   go_wp2_with fail
   go_roundw
   case rel => exact ⟨j + 1, by omega, by go_num, A9, c9, rfl, O9⟩
   case measure => simp [intOf]; omega
  ·skip
   have n0 := PB.out 0 _ rfl
   have n1 := PB.out 1 _ rfl
   have n2 := PB.out 2 _ rfl
   have n3 := BX.out 1 _ rfl
   have N0 := qh n0
   have N1 := qh n1
   have N2 := qh n2
   have N3 := qh n3
   clear n0 n1 n2 n3
   go_wp2_with fail
   go_region_held3 (fun w' => w'.cell? ⟨w.heap.size, 0, none⟩ = some (.slice gA p.globals.length gc) ∧ w'.cell? ⟨w.heap.size, 1, none⟩ = some (.slice lA p.locks.length lc) ∧ w'.cell? ⟨w.heap.size, 2, none⟩ = some (.slice pA p.procs.length pc) ∧ w'.cell? ⟨wq.heap.size, 1, none⟩ = some (.string xs))
    (first | go_keep | exact ⟨KT1.cellT S5.out (cell_keep B5.out N0.out), KT1.cellT S5.out (cell_keep B5.out N1.out), KT1.cellT S5.out (cell_keep B5.out N2.out), KT1.cellT T5.out (cell_keep B5.out N3.out)⟩ | exact ⟨cell_keep B5.out N0.out, cell_keep B5.out N1.out, cell_keep B5.out N2.out, cell_keep B5.out N3.out⟩)
    (first
     | (go_at_call 52; (refine (spec_l07Procs p ⟨gA, gc, lA, lc, pA, pc⟩ _ (by exact (HP.out.belowA OB.out.2).drew) hpn).mono ?_); rintro e w5 ⟨A5, c5, rfl, own5⟩; have B5 : Hid (Below (wq.alloc (.cells #[.int .i64 4, .string xs, .int .i64 tk, .int .i64 tn, .string ts, .slice tA tm tc, .slice bA body.length bc, .slice eA els.length ec] 71)).heap.size (wq.alloc (.cells #[.int .i64 4, .string xs, .int .i64 tk, .int .i64 tn, .string ts, .slice tA tm tc, .slice bA body.length bc, .slice eA els.length ec] 71)) w5) := qh (Below.trans (Below.refl _ _).drew own5.2); have S5 := qh (sane_below SP.out (by simp; omega) B5.out); have T5 := qh (sane_below SB.out (by simp) B5.out))
     | (go_at_call 102; (refine (spec_l07Add w0 _ _ _ aj (pnames p.procs) xs (by exact OB.out.below B5.out) (by exact own5.isStrs) (by omega)).mono ?_); rintro e w1 ⟨v1, rfl, own1, gr1⟩; have KT1 := gr1.keepT (OB.out.below B5.out)))
   have OM : Hid (OwnStrs w0 w1 v1 (addUnk (pnames p.procs) aj xs)) := qh own1
   have KM := qh (KB.out.trans' ((KeepT.of_below' B5.out).trans' KT1))
   have hml : (addUnk (pnames p.procs) aj xs).length ≤ aj.length + 1 := addUnk_len _ _ _
   have HM1 : Hid (headK p.globals p.locks (pnames p.procs) 4 aj xs = addUnk (pnames p.procs) aj xs) := qh (by simp [headK])
   have PM := qh ((PB.out.below B5.out).keepS KT1 S5.out)
   have BM := qh ((BX.out.below B5.out).keepS KT1 T5.out)
   have z5 := B5.out.size
   have zM := KT1.size
   have hz1 : wq.heap.size < w1.heap.size := by simp at z5; omega
   have SPM := qh (sane_keep S5.out (by simp at z5; omega) KT1)
   have SBM := qh (sane_keep T5.out (by simp at z5; omega) KT1)
   obtain ⟨A1, c1, rfl, _⟩ := own1.slice
   clear own1 own5 gr1 KT1 OB PB BX SP SB KB zM z5 C0 C1 C2 S5 T5 B5
   clear N0 N1 N2 N3
   have OJ := OM
   have KJ := KM
   have PJ := PM
   have BI := BM
   have SJ := SPM
   have SL := SBM
   clear OM KM PM BM SPM SBM
   have QN := qh (QK.out (by decide) (by decide) (by decide))
   have p0 : w1.cell? ⟨w.heap.size, 0, none⟩ = some (.slice gA p.globals.length gc) := PJ.out 0 _ rfl
   have p1 : w1.cell? ⟨w.heap.size, 1, none⟩ = some (.slice lA p.locks.length lc) := PJ.out 1 _ rfl
   have p2 : w1.cell? ⟨w.heap.size, 2, none⟩ = some (.slice pA p.procs.length pc) := PJ.out 2 _ rfl
   have q0 : w1.cell? ⟨wq.heap.size, 0, none⟩ = some (.int .i64 4) := BI.out 0 _ rfl
   have q1 : w1.cell? ⟨wq.heap.size, 1, none⟩ = some (.string xs) := BI.out 1 _ rfl
   have q2 : w1.cell? ⟨wq.heap.size, 2, none⟩ = some (.int .i64 tk) := BI.out 2 _ rfl
   have q33 : w1.cell? ⟨wq.heap.size, 3, none⟩ = some (.int .i64 tn) := BI.out 3 _ rfl
   have q4 : w1.cell? ⟨wq.heap.size, 4, none⟩ = some (.string ts) := BI.out 4 _ rfl
   have q5 : w1.cell? ⟨wq.heap.size, 5, none⟩ = some (.slice tA tm tc) := BI.out 5 _ rfl
   have q6 : w1.cell? ⟨wq.heap.size, 6, none⟩ = some (.slice bA body.length bc) := BI.out 6 _ rfl
   have q7 : w1.cell? ⟨wq.heap.size, 7, none⟩ = some (.slice eA els.length ec) := BI.out 7 _ rfl
   clear p0 p1 p2
   have q3 : w1.cell? ⟨wq.heap.size, 6, none⟩ = some (.slice bA body.length bc) := BI.out 6 _ rfl
   have p0 : w1.cell? ⟨w.heap.size, 0, none⟩ = some (.slice gA p.globals.length gc) := PJ.out 0 _ rfl
   have p1 : w1.cell? ⟨w.heap.size, 1, none⟩ = some (.slice lA p.locks.length lc) := PJ.out 1 _ rfl
   have p2 : w1.cell? ⟨w.heap.size, 2, none⟩ = some (.slice pA p.procs.length pc) := PJ.out 2 _ rfl
   go_wp2_with fail
   (with_reducible refine (VB.out bA bc w0 _ _ _ HP.out RB.out OJ.out hb2 hb3 QB.out hpn (by omega) (by omega)).mono ?_)
   rintro e w8 ⟨v8, rfl, own8, kp8⟩
   have O8 := qh own8
   have hl8 := unkGs_len p.globals p.locks (pnames p.procs) (addUnk (pnames p.procs) aj xs) body
   have K8 := qh (KJ.out.trans' kp8)
   have B8 := BI.out.keepS kp8 SL.out
   have P8 := qh (PJ.out.keepS kp8 SJ.out)
   have S8 := qh (sane_keep SJ.out (by first | (have := KJ.out.size; omega) | (simp; omega)) kp8)
   clear q7
   have q7 : w8.cell? ⟨wq.heap.size, 7, none⟩ = some (.slice eA els.length ec) := B8 7 _ rfl
   clear p0 p1 p2
   have p0 : w8.cell? ⟨w.heap.size, 0, none⟩ = some (.slice gA p.globals.length gc) := P8.out 0 _ rfl
   have p1 : w8.cell? ⟨w.heap.size, 1, none⟩ = some (.slice lA p.locks.length lc) := P8.out 1 _ rfl
   have p2 : w8.cell? ⟨w.heap.size, 2, none⟩ = some (.slice pA p.procs.length pc) := P8.out 2 _ rfl
   obtain ⟨A8, c8, rfl, _⟩ := own8.slice
   clear own8 B8 q0 q1 q2 q33 q4 q5 q6 BI PJ SJ SL OJ KJ q3
   go_wp2_with fail
   (with_reducible refine (VE.out eA ec w0 _ _ _ HP.out RE.out O8.out he2 he3 QE.out hpn (by omega) (by omega)).mono ?_)
   rintro e w9 ⟨v9, rfl, own9, kp9⟩
   rw [show unkGs p.globals p.locks (pnames p.procs) (unkGs p.globals p.locks (pnames p.procs) (addUnk (pnames p.procs) aj xs) body) els = unkGs p.globals p.locks (pnames p.procs) acc (l.take (j + 1)) from by rw [HN.out, HM1.out]; rw [QN.out, readK_nil]] at own9
   have O9 := qh (And.intro own9 (And.intro (K8.out.trans' kp9) (And.intro (P8.out.keepS kp9 S8.out) (sane_keep S8.out (cell_lt p0) kp9))))
   obtain ⟨A9, c9, rfl, _⟩ := own9.slice
   clear own9 kp9 kp8 p0 p1 p2 q7
   go_wp2_with fail
   go_roundw
   case rel => exact ⟨j + 1, by omega, by go_num, A9, c9, rfl, O9⟩
   case measure => simp [intOf]; omega
  ·skip
   have n0 := PB.out 0 _ rfl
   have n1 := PB.out 1 _ rfl
   have n2 := PB.out 2 _ rfl
   have n3 := BX.out 1 _ rfl
   have N0 := qh n0
   have N1 := qh n1
   have N2 := qh n2
   have N3 := qh n3
   clear n0 n1 n2 n3
   go_wp2_with fail
   go_region_held3 (fun w' => w'.cell? ⟨w.heap.size, 0, none⟩ = some (.slice gA p.globals.length gc) ∧ w'.cell? ⟨w.heap.size, 1, none⟩ = some (.slice lA p.locks.length lc) ∧ w'.cell? ⟨w.heap.size, 2, none⟩ = some (.slice pA p.procs.length pc) ∧ w'.cell? ⟨wq.heap.size, 1, none⟩ = some (.string xs))
    (first | go_keep | exact ⟨KT1.cellT S5.out (cell_keep B5.out N0.out), KT1.cellT S5.out (cell_keep B5.out N1.out), KT1.cellT S5.out (cell_keep B5.out N2.out), KT1.cellT T5.out (cell_keep B5.out N3.out)⟩ | exact ⟨cell_keep B5.out N0.out, cell_keep B5.out N1.out, cell_keep B5.out N2.out, cell_keep B5.out N3.out⟩)
    (first
     | (go_at_call 52; (refine (spec_l07Procs p ⟨gA, gc, lA, lc, pA, pc⟩ _ (by exact (HP.out.belowA OB.out.2).drew) hpn).mono ?_); rintro e w5 ⟨A5, c5, rfl, own5⟩; have B5 : Hid (Below (wq.alloc (.cells #[.int .i64 5, .string xs, .int .i64 tk, .int .i64 tn, .string ts, .slice tA tm tc, .slice bA body.length bc, .slice eA els.length ec] 71)).heap.size (wq.alloc (.cells #[.int .i64 5, .string xs, .int .i64 tk, .int .i64 tn, .string ts, .slice tA tm tc, .slice bA body.length bc, .slice eA els.length ec] 71)) w5) := qh (Below.trans (Below.refl _ _).drew own5.2); have S5 := qh (sane_below SP.out (by simp; omega) B5.out); have T5 := qh (sane_below SB.out (by simp) B5.out))
     | (go_at_call 102; (refine (spec_l07Add w0 _ _ _ aj (pnames p.procs) xs (by exact OB.out.below B5.out) (by exact own5.isStrs) (by omega)).mono ?_); rintro e w1 ⟨v1, rfl, own1, gr1⟩; have KT1 := gr1.keepT (OB.out.below B5.out)))
   have OM : Hid (OwnStrs w0 w1 v1 (addUnk (pnames p.procs) aj xs)) := qh own1
   have KM := qh (KB.out.trans' ((KeepT.of_below' B5.out).trans' KT1))
   have hml : (addUnk (pnames p.procs) aj xs).length ≤ aj.length + 1 := addUnk_len _ _ _
   have HM1 : Hid (headK p.globals p.locks (pnames p.procs) 5 aj xs = addUnk (pnames p.procs) aj xs) := qh (by simp [headK])
   have PM := qh ((PB.out.below B5.out).keepS KT1 S5.out)
   have BM := qh ((BX.out.below B5.out).keepS KT1 T5.out)
   have z5 := B5.out.size
   have zM := KT1.size
   have hz1 : wq.heap.size < w1.heap.size := by simp at z5; omega
   have SPM := qh (sane_keep S5.out (by simp at z5; omega) KT1)
   have SBM := qh (sane_keep T5.out (by simp at z5; omega) KT1)
   obtain ⟨A1, c1, rfl, _⟩ := own1.slice
   clear own1 own5 gr1 KT1 OB PB BX SP SB KB zM z5 C0 C1 C2 S5 T5 B5
   clear N0 N1 N2 N3
   have OJ := OM
   have KJ := KM
   have PJ := PM
   have BI := BM
   have SJ := SPM
   have SL := SBM
   clear OM KM PM BM SPM SBM
   have QN := qh (QK.out (by decide) (by decide) (by decide))
   have p0 : w1.cell? ⟨w.heap.size, 0, none⟩ = some (.slice gA p.globals.length gc) := PJ.out 0 _ rfl
   have p1 : w1.cell? ⟨w.heap.size, 1, none⟩ = some (.slice lA p.locks.length lc) := PJ.out 1 _ rfl
   have p2 : w1.cell? ⟨w.heap.size, 2, none⟩ = some (.slice pA p.procs.length pc) := PJ.out 2 _ rfl
   have q0 : w1.cell? ⟨wq.heap.size, 0, none⟩ = some (.int .i64 5) := BI.out 0 _ rfl
   have q1 : w1.cell? ⟨wq.heap.size, 1, none⟩ = some (.string xs) := BI.out 1 _ rfl
   have q2 : w1.cell? ⟨wq.heap.size, 2, none⟩ = some (.int .i64 tk) := BI.out 2 _ rfl
   have q33 : w1.cell? ⟨wq.heap.size, 3, none⟩ = some (.int .i64 tn) := BI.out 3 _ rfl
   have q4 : w1.cell? ⟨wq.heap.size, 4, none⟩ = some (.string ts) := BI.out 4 _ rfl
   have q5 : w1.cell? ⟨wq.heap.size, 5, none⟩ = some (.slice tA tm tc) := BI.out 5 _ rfl
   have q6 : w1.cell? ⟨wq.heap.size, 6, none⟩ = some (.slice bA body.length bc) := BI.out 6 _ rfl
   have q7 : w1.cell? ⟨wq.heap.size, 7, none⟩ = some (.slice eA els.length ec) := BI.out 7 _ rfl
   clear p0 p1 p2
   have q3 : w1.cell? ⟨wq.heap.size, 6, none⟩ = some (.slice bA body.length bc) := BI.out 6 _ rfl
   have p0 : w1.cell? ⟨w.heap.size, 0, none⟩ = some (.slice gA p.globals.length gc) := PJ.out 0 _ rfl
   have p1 : w1.cell? ⟨w.heap.size, 1, none⟩ = some (.slice lA p.locks.length lc) := PJ.out 1 _ rfl
   have p2 : w1.cell? ⟨w.heap.size, 2, none⟩ = some (.slice pA p.procs.length pc) := PJ.out 2 _ rfl
   go_wp2_with fail
   (with_reducible refine (VB.out bA bc w0 _ _ _ HP.out RB.out OJ.out hb2 hb3 QB.out hpn (by omega) (by omega)).mono ?_)
   rintro e w8 ⟨v8, rfl, own8, kp8⟩
   have O8 := qh own8
   have hl8 := unkGs_len p.globals p.locks (pnames p.procs) (addUnk (pnames p.procs) aj xs) body
   have K8 := qh (KJ.out.trans' kp8)
   have B8 := BI.out.keepS kp8 SL.out
   have P8 := qh (PJ.out.keepS kp8 SJ.out)
   have S8 := qh (sane_keep SJ.out (by first | (have := KJ.out.size; omega) | (simp; omega)) kp8)
   clear q7
   have q7 : w8.cell? ⟨wq.heap.size, 7, none⟩ = some (.slice eA els.length ec) := B8 7 _ rfl
   clear p0 p1 p2
   have p0 : w8.cell? ⟨w.heap.size, 0, none⟩ = some (.slice gA p.globals.length gc) := P8.out 0 _ rfl
   have p1 : w8.cell? ⟨w.heap.size, 1, none⟩ = some (.slice lA p.locks.length lc) := P8.out 1 _ rfl
   have p2 : w8.cell? ⟨w.heap.size, 2, none⟩ = some (.slice pA p.procs.length pc) := P8.out 2 _ rfl
   obtain ⟨A8, c8, rfl, _⟩ := own8.slice
   clear own8 B8 q0 q1 q2 q33 q4 q5 q6 BI PJ SJ SL OJ KJ q3
   go_wp2_with fail
   (with_reducible refine (VE.out eA ec w0 _ _ _ HP.out RE.out O8.out he2 he3 QE.out hpn (by omega) (by omega)).mono ?_)
   rintro e w9 ⟨v9, rfl, own9, kp9⟩
   rw [show unkGs p.globals p.locks (pnames p.procs) (unkGs p.globals p.locks (pnames p.procs) (addUnk (pnames p.procs) aj xs) body) els = unkGs p.globals p.locks (pnames p.procs) acc (l.take (j + 1)) from by rw [HN.out, HM1.out]; rw [QN.out, readK_nil]] at own9
   have O9 := qh (And.intro own9 (And.intro (K8.out.trans' kp9) (And.intro (P8.out.keepS kp9 S8.out) (sane_keep S8.out (cell_lt p0) kp9))))
   obtain ⟨A9, c9, rfl, _⟩ := own9.slice
   clear own9 kp9 kp8 p0 p1 p2 q7
   go_wp2_with fail
   go_roundw
   case rel => exact ⟨j + 1, by omega, by go_num, A9, c9, rfl, O9⟩
   case measure => simp [intOf]; omega
  ·skip
   have HM1 : Hid (headK p.globals p.locks (pnames p.procs) 2 aj xs = aj) := qh (by simp [headK])
   have OM := OB
   have KM := KB
   have PM := PB
   have BM := BX
   have SPM := SP
   have SBM := SB
   clear OB KB PB BX SP SB
   go_wp2_with fail
   refine (spec_ReadsOf t tk tn ts tA tm tc _ ((TT.out.belowA OM.out.2)) (by omega)).mono ?_
   rintro e w2 ⟨vr, rfl, ownr⟩
   have hr2 := ownr.2
   have RR : Hid (OwnStrs w0 w2 vr (readsR t)) := qh (ownr.base OM.out.2)
   have NE : Hid (∀ b, vr.ownBlock = some b → (Value.slice A' aj.length c').ownBlock ≠ some b) := qh (fun b hb e => by have h1 := (ownr.inB b hb).1; have h2 := (OM.out.inB b e).2; omega)
   have O2 := qh (OM.out.below hr2)
   have K2 := qh (KM.out.trans' (KeepT.of_below' hr2))
   have P2 := qh (PM.out.below hr2)
   have B2 := qh (BM.out.below hr2)
   have SP2 := qh (sane_below SPM.out (by first | omega | (simp; omega)) hr2)
   have SB2 := qh (sane_below SBM.out (by first | omega | simp) hr2)
   have hz2 : wq.heap.size < w2.heap.size := by have := hr2.size; first | omega | (simp at this; omega)
   obtain ⟨Ar, cr, rfl, _⟩ := ownr.slice
   have hcr := own_cap' ownr
   unfold maxLen at hcr
   generalize hRR : readsR t = R at *
   clear hr2 ownr OM KM PM BM SPM SBM C0 C1 C2 hRR
   go_wp2_with fail
   go_loopw [2, 10] (fun lv i wr => ∃ m : Nat, m ≤ R.length ∧ i = .int .i64 m ∧ ∃ A5 c5, lv = .slice A5 (readK p.globals aj (R.take m)).length c5 ∧ Hid (OwnStrs w0 wr (.slice A5 (readK p.globals aj (R.take m)).length c5) (readK p.globals aj (R.take m)) ∧ Grew (.slice A' aj.length c') (.slice A5 (readK p.globals aj (R.take m)).length c5) w2 wr)) (fun _ i _ => R.length - (intOf i).toNat)
   case atStart => exact ⟨0, Nat.zero_le _, rfl, A', c', rfl, qh ⟨O2.out, Grew.refl _ _⟩⟩
   case round =>
    obtain ⟨m, hm, rfl, A5, c5, rfl, HI⟩ := hrel
    have KI := qh (HI.out.2.keepT O2.out)
    have hrk := readK_len p.globals aj (R.take m)
    have hrt : (R.take m).length ≤ R.length := by rw [List.length_take]; omega
    have p0 := (P2.out.keepS KI.out SP2.out) 0 _ rfl
    by_cases hlt2 : m < R.length
    ·obtain ⟨rb, ro, rfl, hcell⟩ := rd_str (Own.rd (RR.out.grew HI.out.2 NE.out (fun b e => (O2.out.inB b e).1))) hlt2
     have HT := qh (readK_take p.globals aj R m hlt2)
     have h0m : (0 : Int) ≤ (m : Int) := by omega
     have h1m : (m : Int) < (R.length : Int) := by omega
     have SPI := qh (sane_keep SP2.out (by have := K2.out.size; omega) KI.out)
     have NB : Hid ((Value.slice A5 (readK p.globals aj (R.take m)).length c5).ownBlock ≠ some rb) := qh (fun e => by
      rcases HI.out.2.lies with h1 | ⟨g, h1, h2⟩
      ·exact NE.out rb rfl (h1.symm.trans e)
      ·rw [h1] at e; injection e with e
       have := (RR.out.inB rb rfl).2; omega)
     have CI := qh hcell
     have PI0 := qh p0
     go_wp2_with fail
     go_region_held3 (fun w' => w'.cell? ⟨w.heap.size, 0, none⟩ = some (.slice gA p.globals.length gc) ∧ w'.cell? ⟨rb, ro + m, none⟩ = some (.string R[m])) (first | go_keep | exact ⟨gr6.keep.cellEq (Own.neT HI.out.1 SPI.out) PI0.out, gr6.keep.cellEq NB.out CI.out⟩)
      ((go_at_call 102; (refine (spec_l07Add w0 _ _ _ (readK p.globals aj (R.take m)) p.globals R[m] (by exact HI.out.1.drew) (by exact (HP.out.belowA HI.out.1.2).gs.below (Below.refl _ _).drew) (by omega)).mono ?_); rintro e w6 ⟨v6, rfl, own6, gr6⟩))
     have O6 := qh (And.intro (by rw [HT.out]; exact own6 : OwnStrs w0 w6 v6 (readK p.globals aj (R.take (m + 1)))) (HI.out.2.trans ((Grew.of_below (Below.refl _ _).drew).trans gr6)))
     obtain ⟨A6, c6, rfl, _⟩ := O6.out.1.slice
     clear own6 gr6 p0 hcell
     go_wp2_with fail
     go_roundw
     case rel => exact ⟨m + 1, by omega, by go_num, A6, c6, rfl, O6⟩
     case measure => simp [intOf]; omega
    ·have TK : Hid (R.take m = R) := qh (List.take_of_length_le (by omega))
     have BI := qh (B2.out.keepS KI.out SB2.out)
     have PJ := qh (P2.out.keepS KI.out SP2.out)
     have SJ := qh (sane_keep SP2.out (by have := K2.out.size; omega) KI.out)
     have SL := qh (sane_keep SB2.out (by omega) KI.out)
     have hzi : wq.heap.size < wr.heap.size := by have := KI.out.size; omega
     have KJ := qh (K2.out.trans' KI.out)
     have OJ := qh HI.out.1
     clear p0 HI KI O2 K2 P2 B2 SP2 SB2 NE RR
     have q3 : wr.cell? ⟨wq.heap.size, 6, none⟩ = some (.slice bA body.length bc) := BI.out 6 _ rfl
     have p0 : wr.cell? ⟨w.heap.size, 0, none⟩ = some (.slice gA p.globals.length gc) := PJ.out 0 _ rfl
     have p1 : wr.cell? ⟨w.heap.size, 1, none⟩ = some (.slice lA p.locks.length lc) := PJ.out 1 _ rfl
     have p2 : wr.cell? ⟨w.heap.size, 2, none⟩ = some (.slice pA p.procs.length pc) := PJ.out 2 _ rfl
     go_wp2_with fail
     (with_reducible refine (VB.out bA bc w0 _ _ _ HP.out RB.out OJ.out hb2 hb3 QB.out hpn (by omega) (by omega)).mono ?_)
     rintro e w8 ⟨v8, rfl, own8, kp8⟩
     have O8 := qh own8
     have hl8 := unkGs_len p.globals p.locks (pnames p.procs) (readK p.globals aj (R.take m)) body
     have K8 := qh (KJ.out.trans' kp8)
     have B8 := BI.out.keepS kp8 SL.out
     have P8 := qh (PJ.out.keepS kp8 SJ.out)
     have S8 := qh (sane_keep SJ.out (by first | (have := KJ.out.size; omega) | (simp; omega)) kp8)
     have q7 : w8.cell? ⟨wq.heap.size, 7, none⟩ = some (.slice eA els.length ec) := B8 7 _ rfl
     have p0 : w8.cell? ⟨w.heap.size, 0, none⟩ = some (.slice gA p.globals.length gc) := P8.out 0 _ rfl
     have p1 : w8.cell? ⟨w.heap.size, 1, none⟩ = some (.slice lA p.locks.length lc) := P8.out 1 _ rfl
     have p2 : w8.cell? ⟨w.heap.size, 2, none⟩ = some (.slice pA p.procs.length pc) := P8.out 2 _ rfl
     obtain ⟨A8, c8, rfl, _⟩ := own8.slice
     clear own8 B8 BI PJ SJ SL OJ KJ q3
     go_wp2_with fail
     (with_reducible refine (VE.out eA ec w0 _ _ _ HP.out RE.out O8.out he2 he3 QE.out hpn (by omega) (by omega)).mono ?_)
     rintro e w9 ⟨v9, rfl, own9, kp9⟩
     rw [show unkGs p.globals p.locks (pnames p.procs) (unkGs p.globals p.locks (pnames p.procs) (readK p.globals aj (R.take m)) body) els = unkGs p.globals p.locks (pnames p.procs) acc (l.take (j + 1)) from by rw [HN.out, HM1.out]; rw [TK.out]] at own9
     have O9 := qh (And.intro own9 (And.intro (K8.out.trans' kp9) (And.intro (P8.out.keepS kp9 S8.out) (sane_keep S8.out (cell_lt p0) kp9))))
     obtain ⟨A9, c9, rfl, _⟩ := own9.slice
     clear own9 kp9 kp8 p0 p1 p2 q7
     go_wp2_with fail
     go_roundw
     case rel => exact ⟨j + 1, by omega, by go_num, A9, c9, rfl, O9⟩
     case measure => simp [intOf]; omega
     
  ·skip
   have HM1 : Hid (headK p.globals p.locks (pnames p.procs) 3 aj xs = aj) := qh (by simp [headK])
   have OM := OB
   have KM := KB
   have PM := PB
   have BM := BX
   have SPM := SP
   have SBM := SB
   clear OB KB PB BX SP SB
   go_wp2_with fail
   refine (spec_ReadsOf t tk tn ts tA tm tc _ ((TT.out.belowA OM.out.2)) (by omega)).mono ?_
   rintro e w2 ⟨vr, rfl, ownr⟩
   have hr2 := ownr.2
   have RR : Hid (OwnStrs w0 w2 vr (readsR t)) := qh (ownr.base OM.out.2)
   have NE : Hid (∀ b, vr.ownBlock = some b → (Value.slice A' aj.length c').ownBlock ≠ some b) := qh (fun b hb e => by have h1 := (ownr.inB b hb).1; have h2 := (OM.out.inB b e).2; omega)
   have O2 := qh (OM.out.below hr2)
   have K2 := qh (KM.out.trans' (KeepT.of_below' hr2))
   have P2 := qh (PM.out.below hr2)
   have B2 := qh (BM.out.below hr2)
   have SP2 := qh (sane_below SPM.out (by first | omega | (simp; omega)) hr2)
   have SB2 := qh (sane_below SBM.out (by first | omega | simp) hr2)
   have hz2 : wq.heap.size < w2.heap.size := by have := hr2.size; first | omega | (simp at this; omega)
   obtain ⟨Ar, cr, rfl, _⟩ := ownr.slice
   have hcr := own_cap' ownr
   unfold maxLen at hcr
   generalize hRR : readsR t = R at *
   clear hr2 ownr OM KM PM BM SPM SBM C0 C1 C2 hRR
   go_wp2_with fail
   go_loopw [2, 10] (fun lv i wr => ∃ m : Nat, m ≤ R.length ∧ i = .int .i64 m ∧ ∃ A5 c5, lv = .slice A5 (readK p.globals aj (R.take m)).length c5 ∧ Hid (OwnStrs w0 wr (.slice A5 (readK p.globals aj (R.take m)).length c5) (readK p.globals aj (R.take m)) ∧ Grew (.slice A' aj.length c') (.slice A5 (readK p.globals aj (R.take m)).length c5) w2 wr)) (fun _ i _ => R.length - (intOf i).toNat)
   case atStart => exact ⟨0, Nat.zero_le _, rfl, A', c', rfl, qh ⟨O2.out, Grew.refl _ _⟩⟩
   case round =>
    obtain ⟨m, hm, rfl, A5, c5, rfl, HI⟩ := hrel
    have KI := qh (HI.out.2.keepT O2.out)
    have hrk := readK_len p.globals aj (R.take m)
    have hrt : (R.take m).length ≤ R.length := by rw [List.length_take]; omega
    have p0 := (P2.out.keepS KI.out SP2.out) 0 _ rfl
    by_cases hlt2 : m < R.length
    ·obtain ⟨rb, ro, rfl, hcell⟩ := rd_str (Own.rd (RR.out.grew HI.out.2 NE.out (fun b e => (O2.out.inB b e).1))) hlt2
     have HT := qh (readK_take p.globals aj R m hlt2)
     have h0m : (0 : Int) ≤ (m : Int) := by omega
     have h1m : (m : Int) < (R.length : Int) := by omega
     have SPI := qh (sane_keep SP2.out (by have := K2.out.size; omega) KI.out)
     have NB : Hid ((Value.slice A5 (readK p.globals aj (R.take m)).length c5).ownBlock ≠ some rb) := qh (fun e => by
      rcases HI.out.2.lies with h1 | ⟨g, h1, h2⟩
      ·exact NE.out rb rfl (h1.symm.trans e)
      ·rw [h1] at e; injection e with e
       have := (RR.out.inB rb rfl).2; omega)
     have CI := qh hcell
     have PI0 := qh p0
     go_wp2_with fail
     go_region_held3 (fun w' => w'.cell? ⟨w.heap.size, 0, none⟩ = some (.slice gA p.globals.length gc) ∧ w'.cell? ⟨rb, ro + m, none⟩ = some (.string R[m])) (first | go_keep | exact ⟨gr6.keep.cellEq (Own.neT HI.out.1 SPI.out) PI0.out, gr6.keep.cellEq NB.out CI.out⟩)
      ((go_at_call 102; (refine (spec_l07Add w0 _ _ _ (readK p.globals aj (R.take m)) p.globals R[m] (by exact HI.out.1.drew) (by exact (HP.out.belowA HI.out.1.2).gs.below (Below.refl _ _).drew) (by omega)).mono ?_); rintro e w6 ⟨v6, rfl, own6, gr6⟩))
     have O6 := qh (And.intro (by rw [HT.out]; exact own6 : OwnStrs w0 w6 v6 (readK p.globals aj (R.take (m + 1)))) (HI.out.2.trans ((Grew.of_below (Below.refl _ _).drew).trans gr6)))
     obtain ⟨A6, c6, rfl, _⟩ := O6.out.1.slice
     clear own6 gr6 p0 hcell
     go_wp2_with fail
     go_roundw
     case rel => exact ⟨m + 1, by omega, by go_num, A6, c6, rfl, O6⟩
     case measure => simp [intOf]; omega
    ·have TK : Hid (R.take m = R) := qh (List.take_of_length_le (by omega))
     have BI := qh (B2.out.keepS KI.out SB2.out)
     have PJ := qh (P2.out.keepS KI.out SP2.out)
     have SJ := qh (sane_keep SP2.out (by have := K2.out.size; omega) KI.out)
     have SL := qh (sane_keep SB2.out (by omega) KI.out)
     have hzi : wq.heap.size < wr.heap.size := by have := KI.out.size; omega
     have KJ := qh (K2.out.trans' KI.out)
     have OJ := qh HI.out.1
     clear p0 HI KI O2 K2 P2 B2 SP2 SB2 NE RR
     have q3 : wr.cell? ⟨wq.heap.size, 6, none⟩ = some (.slice bA body.length bc) := BI.out 6 _ rfl
     have p0 : wr.cell? ⟨w.heap.size, 0, none⟩ = some (.slice gA p.globals.length gc) := PJ.out 0 _ rfl
     have p1 : wr.cell? ⟨w.heap.size, 1, none⟩ = some (.slice lA p.locks.length lc) := PJ.out 1 _ rfl
     have p2 : wr.cell? ⟨w.heap.size, 2, none⟩ = some (.slice pA p.procs.length pc) := PJ.out 2 _ rfl
     go_wp2_with fail
     (with_reducible refine (VB.out bA bc w0 _ _ _ HP.out RB.out OJ.out hb2 hb3 QB.out hpn (by omega) (by omega)).mono ?_)
     rintro e w8 ⟨v8, rfl, own8, kp8⟩
     have O8 := qh own8
     have hl8 := unkGs_len p.globals p.locks (pnames p.procs) (readK p.globals aj (R.take m)) body
     have K8 := qh (KJ.out.trans' kp8)
     have B8 := BI.out.keepS kp8 SL.out
     have P8 := qh (PJ.out.keepS kp8 SJ.out)
     have S8 := qh (sane_keep SJ.out (by first | (have := KJ.out.size; omega) | (simp; omega)) kp8)
     have q7 : w8.cell? ⟨wq.heap.size, 7, none⟩ = some (.slice eA els.length ec) := B8 7 _ rfl
     have p0 : w8.cell? ⟨w.heap.size, 0, none⟩ = some (.slice gA p.globals.length gc) := P8.out 0 _ rfl
     have p1 : w8.cell? ⟨w.heap.size, 1, none⟩ = some (.slice lA p.locks.length lc) := P8.out 1 _ rfl
     have p2 : w8.cell? ⟨w.heap.size, 2, none⟩ = some (.slice pA p.procs.length pc) := P8.out 2 _ rfl
     obtain ⟨A8, c8, rfl, _⟩ := own8.slice
     clear own8 B8 BI PJ SJ SL OJ KJ q3
     go_wp2_with fail
     (with_reducible refine (VE.out eA ec w0 _ _ _ HP.out RE.out O8.out he2 he3 QE.out hpn (by omega) (by omega)).mono ?_)
     rintro e w9 ⟨v9, rfl, own9, kp9⟩
     rw [show unkGs p.globals p.locks (pnames p.procs) (unkGs p.globals p.locks (pnames p.procs) (readK p.globals aj (R.take m)) body) els = unkGs p.globals p.locks (pnames p.procs) acc (l.take (j + 1)) from by rw [HN.out, HM1.out]; rw [TK.out]] at own9
     have O9 := qh (And.intro own9 (And.intro (K8.out.trans' kp9) (And.intro (P8.out.keepS kp9 S8.out) (sane_keep S8.out (cell_lt p0) kp9))))
     obtain ⟨A9, c9, rfl, _⟩ := own9.slice
     clear own9 kp9 kp8 p0 p1 p2 q7
     go_wp2_with fail
     go_roundw
     case rel => exact ⟨j + 1, by omega, by go_num, A9, c9, rfl, O9⟩
     case measure => simp [intOf]; omega
     
  ·skip
   have HM1 : Hid (headK p.globals p.locks (pnames p.procs) xk aj xs = aj) := qh (by rw [beq_eq_false_iff_ne] at e1 e6 e7 e4 e5; simp [headK, e1, e6, e7, e4, e5])
   have OM := OB
   have KM := KB
   have PM := PB
   have BM := BX
   have SPM := SP
   have SBM := SB
   clear OB KB PB BX SP SB
   have OJ := OM
   have KJ := KM
   have PJ := PM
   have BI := BM
   have SJ := SPM
   have SL := SBM
   clear OM KM PM BM SPM SBM
   have QN := qh (QK.out (beq_eq_false_iff_ne.1 e1) (beq_eq_false_iff_ne.1 e2) (beq_eq_false_iff_ne.1 e3))
   go_wp2_with fail
   (with_reducible refine (VB.out bA bc w0 _ _ _ HP.out RB.out OJ.out hb2 hb3 QB.out hpn (by omega) (by omega)).mono ?_)
   rintro e w8 ⟨v8, rfl, own8, kp8⟩
   have O8 := qh own8
   have hl8 := unkGs_len p.globals p.locks (pnames p.procs) aj body
   have K8 := qh (KJ.out.trans' kp8)
   have B8 := BI.out.keepS kp8 SL.out
   have P8 := qh (PJ.out.keepS kp8 SJ.out)
   have S8 := qh (sane_keep SJ.out (by first | (have := KJ.out.size; omega) | (simp; omega)) kp8)
   have q7 : w8.cell? ⟨wq.heap.size, 7, none⟩ = some (.slice eA els.length ec) := B8 7 _ rfl
   have p0 : w8.cell? ⟨w.heap.size, 0, none⟩ = some (.slice gA p.globals.length gc) := P8.out 0 _ rfl
   have p1 : w8.cell? ⟨w.heap.size, 1, none⟩ = some (.slice lA p.locks.length lc) := P8.out 1 _ rfl
   have p2 : w8.cell? ⟨w.heap.size, 2, none⟩ = some (.slice pA p.procs.length pc) := P8.out 2 _ rfl
   obtain ⟨A8, c8, rfl, _⟩ := own8.slice
   clear own8 B8 BI PJ SJ SL OJ KJ
   go_wp2_with fail
   (with_reducible refine (VE.out eA ec w0 _ _ _ HP.out RE.out O8.out he2 he3 QE.out hpn (by omega) (by omega)).mono ?_)
   rintro e w9 ⟨v9, rfl, own9, kp9⟩
   rw [show unkGs p.globals p.locks (pnames p.procs) (unkGs p.globals p.locks (pnames p.procs) aj body) els = unkGs p.globals p.locks (pnames p.procs) acc (l.take (j + 1)) from by rw [HN.out, HM1.out]; rw [QN.out, readK_nil]] at own9
   have O9 := qh (And.intro own9 (And.intro (K8.out.trans' kp9) (And.intro (P8.out.keepS kp9 S8.out) (sane_keep S8.out (cell_lt p0) kp9))))
   obtain ⟨A9, c9, rfl, _⟩ := own9.slice
   clear own9 kp9 kp8 p0 p1 p2 q7
   go_wp2_with fail
   go_roundw
   case rel => exact ⟨j + 1, by omega, by go_num, A9, c9, rfl, O9⟩
   case measure => simp [intOf]; omega
theorem spec_l07Unknown (l : List St) : UkC l := by
 induction hN : snodess l using Nat.strongRecOn generalizing l with
 | ind N ih =>
  refine spec_l07Unknown_at l fun g hg t k s body els e => ?_
  have := snodess_le hg
  have h2 : snodes g = 1 + snodess body + snodess els := by rw [e, snodes]
  exact ⟨ih _ (by omega) body rfl, ih _ (by omega) els rfl⟩
end Go.Proofs.YtnmblfonmfjoeaaGreatDoor
