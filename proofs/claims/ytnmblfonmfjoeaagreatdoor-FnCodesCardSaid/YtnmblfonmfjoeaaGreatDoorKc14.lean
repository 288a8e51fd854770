/- Lemmas for the row. -/
import Derived.Test.YtnmblfonmfjoeaaGreatDoorKc13
namespace Go.Proofs.YtnmblfonmfjoeaaGreatDoor
open Go.RowKit
set_option maxHeartbeats 1600000
set_option maxRecDepth 100000
set_option linter.unusedVariables false
def readsR (t : Tm) : List ByteArray := if okT 6 t = true then readsT [] t else []
theorem readsR_yes {t : Tm} (h : okT 6 t = true) : readsR t = readsT [] t := by simp [readsR, h]
theorem readsR_no {t : Tm} (h : okT 6 t = false) : readsR t = [] := by simp [readsR, h]
theorem readsR_len (t : Tm) : (readsR t).length ≤ nodes t := by
 unfold readsR
 split
 ·have := readsT_len [] t; simpa using this
 ·simp
theorem OwnStrs.nil {w0 w : World} (h : Below w0.heap.size w0 w) : OwnStrs w0 w (.slice none 0 0) [] := Own.startB h _ _
theorem OwnStrs.empty {w0 w : World} (h : Below w0.heap.size w0 w) : OwnStrs w0 (w.alloc (.cells #[] 9)) (.slice (some ⟨w.heap.size, 0, none⟩) 0 0) [] := Own.lit h _ 1 0 #[] (by simp [maxLen]) rfl
theorem OwnStrs.base {w0 w1 w : World} {v : Value} {ss : List ByteArray} (h : OwnStrs w1 w v ss) (hb : Below w0.heap.size w0 w1) : OwnStrs w0 w v ss := by
 refine ⟨⟨h.1.1, ?_⟩, hb.trans (h.2.mono hb.size)⟩
 rcases h.1.2 with h' | ⟨g, cap, cur, e, hg, r⟩
 ·exact .inl h'
 ·exact .inr ⟨g, cap, cur, e, Nat.le_trans hb.size hg, r⟩
theorem OwnStrs.keepS {w0 w w' : World} {v : Value} {ss : List ByteArray} {S : Nat → Prop} (h : OwnStrs w0 w v ss) (hk : Keep S w w') (hv : ∀ b, v.ownBlock = some b → S b) (hs : ∀ b, b < w0.heap.size → S b) : OwnStrs w0 w' v ss := by
 refine ⟨⟨h.1.1, ?_⟩, h.2.trans (hk.below h.2.size hs)⟩
 rcases h.1.2 with h' | ⟨g, cap, cur, rfl, hg, hh, r⟩
 ·exact .inl h'
 ·exact .inr ⟨g, cap, cur, rfl, hg, (hk.block g (lt_of_block hh) (hv g rfl)).trans hh, r⟩
theorem OwnStrs.inB {w0 w : World} {v : Value} {ss : List ByteArray} (h : OwnStrs w0 w v ss) : ∀ b, v.ownBlock = some b → w0.heap.size ≤ b ∧ b < w.heap.size := fun b hb => h.1.lt b hb
theorem spec_ReadsOf (t : Tm) (k n : Int) (s : ByteArray) (A : Option Addr) (m c : Nat) (w : World) (ht : TmIs AnyB w [.int .i64 k, .int .i64 n, .string s, .slice A m c] t) (hb : nodes t ≤ 10000000) :
  Calls Tryz.prog 92 #[.agg #[.int .i64 k, .int .i64 n, .string s, .slice A m c]] w fun e w' => ∃ v', e = .returned v' ∧ OwnStrs w w' v' (readsR t) := by
 have HT := qh ht
 clear ht
 cases h : okT 6 t with
 | false =>
  rw [readsR_no h]
  go_enter Tryz.func92, Tryz.ntmps92
  go_wp2_with fail
  refine (spec_TermOk t k n s A m c _ (HT.out.belowA zB)).mono ?_
  rintro e w1 ⟨rfl, b1⟩
  have B1 : Hid (Below w.heap.size w w1) := qh (Below.trans zB (b1.mono (by simp)))
  rw [h]
  clear b1
  go_wp2_with fail
  go_ret
  exact ⟨_, rfl, OwnStrs.empty B1.out⟩
 | true =>
  rw [readsR_yes h]
  go_enter Tryz.func92, Tryz.ntmps92
  go_wp2_with fail
  refine (spec_TermOk t k n s A m c _ (HT.out.belowA zB)).mono ?_
  rintro e w1 ⟨rfl, b1⟩
  have B1 : Hid (Below w.heap.size w w1) := qh (Below.trans zB (b1.mono (by simp)))
  have X1 : Box4 w1 w.heap.size (vt k n s A m c) := Box4.below (Box4.lit rfl) b1
  obtain ⟨p0, p1, p2, p3⟩ := X1
  simp only [vt] at p0 p1 p2 p3
  have hz := cell_lt p0
  rw [h]
  clear b1
  go_wp2_with fail
  refine (spec_l03Reads t k n s A m c w _ _ [] HT.out (OwnStrs.empty B1.out) (by simpa using hb)).mono ?_
  rintro e w2 ⟨v2, rfl, own2, kp2⟩
  have O2 := qh own2
  obtain ⟨A2, c2, rfl, _⟩ := own2.slice
  clear own2 kp2
  go_wp2_with fail
  go_ret
  exact ⟨_, rfl, O2.out⟩
theorem impl_ReadsOf (t : Tm) (k n : Int) (s : ByteArray) (A : Option Addr) (m c : Nat) (w : World) (ht : TmIs AnyB w [.int .i64 k, .int .i64 n, .string s, .slice A m c] t) (hb : nodes t ≤ 10000000) :
  Calls Tryz.prog 60 #[.agg #[.int .i64 k, .int .i64 n, .string s, .slice A m c]] w fun e w' => ∃ v', e = .returned v' ∧ OwnStrs w w' v' (readsR t) := by
 have HT := qh ht
 clear ht
 cases h : okT 6 t with
 | false =>
  rw [readsR_no h]
  go_enter Tryz.func60, Tryz.ntmps60
  go_wp2_with fail
  refine (impl_TermOk t k n s A m c _ (HT.out.belowA zB)).mono ?_
  rintro e w1 ⟨rfl, b1⟩
  have B1 : Hid (Below w.heap.size w w1) := qh (Below.trans zB (b1.mono (by simp)))
  rw [h]
  clear b1
  go_wp2_with fail
  go_ret
  exact ⟨_, rfl, OwnStrs.nil B1.out⟩
 | true =>
  rw [readsR_yes h]
  go_enter Tryz.func60, Tryz.ntmps60
  go_wp2_with fail
  refine (impl_TermOk t k n s A m c _ (HT.out.belowA zB)).mono ?_
  rintro e w1 ⟨rfl, b1⟩
  have B1 : Hid (Below w.heap.size w w1) := qh (Below.trans zB (b1.mono (by simp)))
  have X1 : Box4 w1 w.heap.size (vt k n s A m c) := Box4.below (Box4.lit rfl) b1
  obtain ⟨p0, p1, p2, p3⟩ := X1
  simp only [vt] at p0 p1 p2 p3
  rw [h]
  clear b1
  go_wp2_with fail
  refine (impl_addReads t k n s A m c w _ _ [] HT.out (OwnStrs.nil B1.out) (by simpa using hb)).mono ?_
  rintro e w2 ⟨v2, rfl, own2, kp2⟩
  have O2 := qh own2
  obtain ⟨A2, c2, rfl, _⟩ := own2.slice
  clear own2 kp2
  go_wp2_with fail
  go_ret
  exact ⟨_, rfl, O2.out⟩
def pnames (l : List Pr) : List ByteArray := l.map Pr.name
theorem pnames_len (l : List Pr) : (pnames l).length = l.length := by simp [pnames]
theorem pnames_get (l : List Pr) (i : Nat) (h : i < l.length) (h' : i < (pnames l).length) : (pnames l)[i] = l[i].name := by simp [pnames]
theorem spec_ProcAt (p : Pg) (x : V3) (nm : ByteArray) (w : World) (hp : PgIs w x p) :
  Calls Tryz.prog 54 #[x.val p, .string nm] w fun e w' => e = .returned (.int .i64 (placeS (pnames p.procs) nm)) ∧ Below w.heap.size w w' := by
 obtain ⟨gs, ls, ps⟩ := p
 obtain ⟨gA, gc, lA, lc, pA, pc⟩ := x
 have RW := qh hp.p3
 have hpl := hp.p1
 have hpc := hp.p2
 simp only at RW hpl hpc
 unfold maxLen at hpc
 unfold V3.val
 simp only
 clear hp
 go_enter Tryz.func54, Tryz.ntmps54
 go_wp2_with fail
 go_loopw [5] (fun i wr => ∃ k : Nat, k ≤ ps.length ∧ i = .int .i64 k ∧ wr.cell? ⟨w.heap.size, 2, none⟩ = some (.slice pA ps.length pc) ∧ Below w.heap.size w wr ∧ Hid (∀ s ∈ (pnames ps).take k, s ≠ nm)) (fun i _ => ps.length - (intOf i).toNat)
 case atStart => exact ⟨0, Nat.zero_le _, rfl, by simp, zB, qh (by simp)⟩
 case round =>
  obtain ⟨k, hk, rfl, x2, hb, HT⟩ := hrel
  have HB := qh hb
  clear hb
  have hnl := pnames_len ps
  by_cases hlt : k < ps.length
  ·obtain ⟨b, off, x, rfl, d0, d1, hpr⟩ := rd_proc (RW.out.belowA HB.out) hlt
   have hlt' : k < (pnames ps).length := by omega
   have hn : (pnames ps)[k] = x.s := by rw [pnames_get ps k hlt]; exact hpr.1
   have h0k : (0 : Int) ≤ (k : Int) := by omega
   have q := str_eq x.s nm
   clear hpr d1
   by_cases e : x.s = nm
   ·have P := qh (placeS_at HT.out hlt' (hn.trans e))
    rw [decide_eq_true e] at q
    clear e hn
    go_wp2_with fail
    go_ret
    exact ⟨ret_int P.out.symm, HB.out⟩
   ·have T := qh (take_all_succ HT.out hlt' (fun h => e (hn.symm.trans h)))
    rw [decide_no e] at q
    clear e hn
    go_wp2_with fail
    go_roundw
    case rel => exact ⟨k + 1, by omega, by go_num, x2, HB.out, qh T.out⟩
    case measure => simp [intOf]; omega
  ·have P := qh (placeS_no (ss := pnames ps) (x := nm) (by have := HT.out; rwa [List.take_of_length_le (by omega)] at this))
   go_wp2_with fail
   go_ret
   exact ⟨ret_int P.out.symm, HB.out⟩
theorem impl_procNames (p : Pg) (x : V3) (w : World) (hp : PgIs w x p) (hb : p.procs.length ≤ 10000000) :
  Calls Tryz.prog 18 #[x.val p] w fun e w' => ∃ A' c', e = .returned (.slice A' (pnames p.procs).length c') ∧ OwnStrs w w' (.slice A' (pnames p.procs).length c') (pnames p.procs) := by
 obtain ⟨gs, ls, ps⟩ := p
 obtain ⟨gA, gc, lA, lc, pA, pc⟩ := x
 have RW := qh hp.p3
 have hpl := hp.p1
 have hpc := hp.p2
 simp only at RW hpl hpc hb
 unfold maxLen at hpc
 unfold V3.val
 simp only
 clear hp
 go_enter Tryz.func18, Tryz.ntmps18
 go_wp2_with fail
 go_loopw [3, 9] (fun lv i wr => ∃ k : Nat, k ≤ ps.length ∧ i = .int .i64 k ∧ ∃ A' c', lv = .slice A' (pnames (ps.take k)).length c' ∧ Hid (OwnStrs w wr (.slice A' (pnames (ps.take k)).length c') (pnames (ps.take k)))) (fun _ i _ => ps.length - (intOf i).toNat)
 case atStart => exact ⟨0, Nat.zero_le _, rfl, none, 0, rfl, qh (OwnStrs.nil zB)⟩
 case round =>
  obtain ⟨k, hk, rfl, A', c', rfl, HO⟩ := hrel
  have hnl := pnames_len (ps.take k)
  by_cases hlt : k < ps.length
  ·obtain ⟨b, off, x, rfl, d0, d1, hpr⟩ := rd_proc (RW.out.belowA HO.out.2) hlt
   have hlb := cell_lt d0
   have HN : Hid (pnames (ps.take (k + 1)) = pnames (ps.take k) ++ [x.s]) := qh (by
    have e : ps.take (k + 1) = ps.take k ++ [ps[k]] := List.take_succ_eq_append_getElem hlt
    rw [e, ← hpr.1]; unfold pnames; rw [List.map_append]; rfl)
   have h0k : (0 : Int) ≤ (k : Int) := by omega
   have hkl : (pnames (ps.take k)).length ≤ 10000000 := by rw [hnl, List.length_take]; omega
   have OA := qh (HO.out.alloc (.cells #[.string x.s, .slice x.A x.m x.c] 40))
   clear hpr hnl
   go_wp2_with (at_builtin; refine wpList_app_keepG (wr.heap.size + 1) (by simp) rfl _ _ _ rfl strT OA.out _ 1 rfl rfl rfl (by simp [Value.oneCell']) (by simp only [maxLen]; omega) (by omega) ?_; intro v2 w2 own2 kp2; have O2 : Hid (OwnStrs w w2 v2 (pnames (ps.take (k + 1)))) := qh (by rw [HN.out]; unfold OwnStrs; rw [List.length_append, ← map_snoc]; exact own2); obtain ⟨A2, c2, rfl, _⟩ := O2.out.slice; clear own2 kp2)
   go_roundw
   case rel => exact ⟨k + 1, by omega, by go_num, A2, c2, rfl, O2⟩
   case measure => simp [intOf]; omega
  ·go_wp2_with fail
   go_ret
   have := HO.out
   rw [List.take_of_length_le (by omega)] at this ⊢
   exact ⟨_, _, rfl, this⟩
theorem i64_of {x : Int} (h1 : -9000000000000000000 ≤ x) (h2 : x ≤ 9000000000000000000) : i64in x := by unfold i64in; omega
abbrev envP (p : Pg) : Env := ⟨p.globals, p.locks, pnames p.procs⟩
abbrev SpE (kb sb : Nat) (g0 g1 g2 s1 s2 s3 s4 s5 : Value) (w : World) : Prop := w.cell? ⟨kb, 0, none⟩ = some g0 ∧ w.cell? ⟨kb, 1, none⟩ = some g1 ∧ w.cell? ⟨kb, 2, none⟩ = some g2 ∧ w.cell? ⟨sb, 1, none⟩ = some s1 ∧ w.cell? ⟨sb, 2, none⟩ = some s2 ∧ w.cell? ⟨sb, 3, none⟩ = some s3 ∧ w.cell? ⟨sb, 4, none⟩ = some s4 ∧ w.cell? ⟨sb, 5, none⟩ = some s5 ∧ kb < w.heap.size ∧ sb < w.heap.size
theorem spE_of {w : World} {kb sb : Nat} {a b c x s0 s1 s2 s3 s4 s5 s6 s7 : Value} {T U : TypeId} (hk : w.heap[kb]? = some (.cells #[a, b, c, x] T (0, 0))) (hs : w.heap[sb]? = some (.cells #[s0, s1, s2, s3, s4, s5, s6, s7] U (0, 0))) : SpE kb sb a b c s1 s2 s3 s4 s5 w :=
 ⟨(box4 hk).1, (box4 hk).2.1, (box4 hk).2.2.1, (cells8 hs).2.1, (cells8 hs).2.2.1, (cells8 hs).2.2.2.1, (cells8 hs).2.2.2.2.1, (cells8 hs).2.2.2.2.2.1, lt_of_block hk, lt_of_block hs⟩
theorem below_kp {n : Nat} {S : Nat → Prop} {w0 w w' : World} (h : Below n w0 w) (k : Keep S w w') (hn : n ≤ w.heap.size) (hS : ∀ b, b < n → S b) : Below n w0 w' := h.trans (k.below hn hS)
def EsR (w' : World) (A : Option Addr) (c : Nat) (w wP : World) (eb : Nat) (pg : Pg) (gA lA pA : Option Addr) (gc lc pc : Nat) (Ai : Option Addr) (ni ci : Nat) (cur : List Ic) (base : Nat) (Z : Nat → Prop) (l : List St) (e : Ending) : Prop :=
 e = .returned (.tuple #[]) ∧ Keep (Fz base Z eb) w w' ∧ ∃ A' n' c' cur', cur' = cur ++ emSs (envP pg) ni l ∧ w'.heap[eb]? = some (.cells #[.slice gA pg.globals.length gc, .slice lA pg.locks.length lc, .slice pA pg.procs.length pc, .slice A' n' c'] 56 (0, 0)) ∧ GrwI base Z w' (.slice A' n' c') cur'
abbrev EsC (l : List St) : Prop := ∀ (A : Option Addr) (c : Nat) (w wP : World) (eb : Nat) (pg : Pg) (gA lA pA : Option Addr) (gc lc pc : Nat) (Ai : Option Addr) (ni ci : Nat) (cur : List Ic) (base : Nat) (Z : Nat → Prop),
 StRow (Fz base Z eb) w A l → l.length ≤ c → c ≤ maxLen → kdSs l → totGs l ≤ 1048577 → cur.length + 2 * snodess l ≤ 100000 →
 PgIs wP ⟨gA, gc, lA, lc, pA, pc⟩ pg → Below wP.heap.size wP w → wP.heap.size ≤ eb → (pg.globals.length ≤ 1000 ∧ pg.locks.length ≤ 1000 ∧ (pnames pg.procs).length ≤ 1000) →
 eb < base → base ≤ w.heap.size → (∀ b, Z b → b < w.heap.size) → w.heap[eb]? = some (.cells #[.slice gA pg.globals.length gc, .slice lA pg.locks.length lc, .slice pA pg.procs.length pc, .slice Ai ni ci] 56 (0, 0)) → GrwI base Z w (.slice Ai ni ci) cur →
 Calls Tryz.prog 21 #[.pointer (some ⟨eb, 0, none⟩), .slice A l.length c] w fun e w' => EsR w' A c w wP eb pg gA lA pA gc lc pc Ai ni ci cur base Z l e
noncomputable def esBody : Code := ((Tryz.f21.body.bind firstLoop).getD .skip)
noncomputable def esIf : Code := ((Tryz.f21.body.bind (condAt 135)).getD .skip)
def EsFr (v0 v1 x2 x3 v4 : Value) (a : Act) : Prop := ∃ u5 u6 u7 u8 u9 u10 u11 u12 u13 u14 u15 u16 u17 u18 u19 u20 u21 u22 u23 u24 u25 u26 u27 u28 u29 u30 u31 u32 u33 u34 u35 u36 u37 u38 u39 u40 u41 u42 u43 u44 u45 u46 u47 u48 u49 u50 u51 u52 u53 u54 u55 u56 u57 u58 u59 u60 u61 u62 u63 u64 u65 u66 u67 u68 u69 u70 u71 u72 u73 u74 u75 u76 u77 u78 u79 u80 u81 u82 u83 u84 u85 u86 u87 u88 u89 u90 u91 u92 u93 u94 u95 u96 u97 u98 u99 u100 u101 u102 u103 u104 u105 u106 u107 u108 u109 u110 u111 u112 u113 u114 u115 u116 u117 u118 u119 u120 u121 u122 u123 u124 u125 u126 u127 u128 u129 u130 u131 u132 u133 u134 u135 u136 u137 u138 u139 u140 u141 u142 u143 u144 u145 u146 u147 u148 u149 u150 u151 u152 u153 u154 u155 u156 u157 u158 u159 u160 u161 u162 u163 u164 u165 u166 u167 u168 u169 u170 u171 u172 u173 u174 u175 u176 u177 u178 : Value, a = ⟨(v0::v1::x2::x3::v4::u5::u6::u7::u8::u9::u10::u11::u12::u13::u14::u15::u16::u17::u18::u19::u20::u21::u22::u23::u24::u25::u26::u27::u28::u29::u30::u31::u32::u33::u34::u35::u36::u37::u38::u39::u40::u41::u42::u43::u44::u45::u46::u47::u48::u49::u50::u51::u52::u53::u54::u55::u56::u57::u58::u59::u60::u61::u62::u63::u64::u65::u66::u67::u68::u69::u70::u71::u72::u73::u74::u75::u76::u77::u78::u79::u80::u81::u82::u83::u84::u85::u86::u87::u88::u89::u90::u91::u92::u93::u94::u95::u96::u97::u98::u99::u100::u101::u102::u103::u104::u105::u106::u107::u108::u109::u110::u111::u112::u113::u114::u115::u116::u117::u118::u119::u120::u121::u122::u123::u124::u125::u126::u127::u128::u129::u130::u131::u132::u133::u134::u135::u136::u137::u138::u139::u140::u141::u142::u143::u144::u145::u146::u147::u148::u149::u150::u151::u152::u153::u154::u155::u156::u157::u158::u159::u160::u161::u162::u163::u164::u165::u166::u167::u168::u169::u170::u171::u172::u173::u174::u175::u176::u177::u178::[]).toArray, []⟩
theorem EsFr.mk {v0 v1 x2 x3 v4 : Value} {u5 u6 u7 u8 u9 u10 u11 u12 u13 u14 u15 u16 u17 u18 u19 u20 u21 u22 u23 u24 u25 u26 u27 u28 u29 u30 u31 u32 u33 u34 u35 u36 u37 u38 u39 u40 u41 u42 u43 u44 u45 u46 u47 u48 u49 u50 u51 u52 u53 u54 u55 u56 u57 u58 u59 u60 u61 u62 u63 u64 u65 u66 u67 u68 u69 u70 u71 u72 u73 u74 u75 u76 u77 u78 u79 u80 u81 u82 u83 u84 u85 u86 u87 u88 u89 u90 u91 u92 u93 u94 u95 u96 u97 u98 u99 u100 u101 u102 u103 u104 u105 u106 u107 u108 u109 u110 u111 u112 u113 u114 u115 u116 u117 u118 u119 u120 u121 u122 u123 u124 u125 u126 u127 u128 u129 u130 u131 u132 u133 u134 u135 u136 u137 u138 u139 u140 u141 u142 u143 u144 u145 u146 u147 u148 u149 u150 u151 u152 u153 u154 u155 u156 u157 u158 u159 u160 u161 u162 u163 u164 u165 u166 u167 u168 u169 u170 u171 u172 u173 u174 u175 u176 u177 u178 : Value} : EsFr v0 v1 x2 x3 v4 ⟨(v0::v1::x2::x3::v4::u5::u6::u7::u8::u9::u10::u11::u12::u13::u14::u15::u16::u17::u18::u19::u20::u21::u22::u23::u24::u25::u26::u27::u28::u29::u30::u31::u32::u33::u34::u35::u36::u37::u38::u39::u40::u41::u42::u43::u44::u45::u46::u47::u48::u49::u50::u51::u52::u53::u54::u55::u56::u57::u58::u59::u60::u61::u62::u63::u64::u65::u66::u67::u68::u69::u70::u71::u72::u73::u74::u75::u76::u77::u78::u79::u80::u81::u82::u83::u84::u85::u86::u87::u88::u89::u90::u91::u92::u93::u94::u95::u96::u97::u98::u99::u100::u101::u102::u103::u104::u105::u106::u107::u108::u109::u110::u111::u112::u113::u114::u115::u116::u117::u118::u119::u120::u121::u122::u123::u124::u125::u126::u127::u128::u129::u130::u131::u132::u133::u134::u135::u136::u137::u138::u139::u140::u141::u142::u143::u144::u145::u146::u147::u148::u149::u150::u151::u152::u153::u154::u155::u156::u157::u158::u159::u160::u161::u162::u163::u164::u165::u166::u167::u168::u169::u170::u171::u172::u173::u174::u175::u176::u177::u178::[]).toArray, []⟩ := by
 unfold EsFr
 iterate 174 (apply Exists.intro)
 rfl
theorem EsFr.all {P : Act → Prop} {v0 v1 x2 x3 v4 : Value} (f : ∀ u5 u6 u7 u8 u9 u10 u11 u12 u13 u14 u15 u16 u17 u18 u19 u20 u21 u22 u23 u24 u25 u26 u27 u28 u29 u30 u31 u32 u33 u34 u35 u36 u37 u38 u39 u40 u41 u42 u43 u44 u45 u46 u47 u48 u49 u50 u51 u52 u53 u54 u55 u56 u57 u58 u59 u60 u61 u62 u63 u64 u65 u66 u67 u68 u69 u70 u71 u72 u73 u74 u75 u76 u77 u78 u79 u80 u81 u82 u83 u84 u85 u86 u87 u88 u89 u90 u91 u92 u93 u94 u95 u96 u97 u98 u99 u100 u101 u102 u103 u104 u105 u106 u107 u108 u109 u110 u111 u112 u113 u114 u115 u116 u117 u118 u119 u120 u121 u122 u123 u124 u125 u126 u127 u128 u129 u130 u131 u132 u133 u134 u135 u136 u137 u138 u139 u140 u141 u142 u143 u144 u145 u146 u147 u148 u149 u150 u151 u152 u153 u154 u155 u156 u157 u158 u159 u160 u161 u162 u163 u164 u165 u166 u167 u168 u169 u170 u171 u172 u173 u174 u175 u176 u177 u178 : Value, P ⟨(v0::v1::x2::x3::v4::u5::u6::u7::u8::u9::u10::u11::u12::u13::u14::u15::u16::u17::u18::u19::u20::u21::u22::u23::u24::u25::u26::u27::u28::u29::u30::u31::u32::u33::u34::u35::u36::u37::u38::u39::u40::u41::u42::u43::u44::u45::u46::u47::u48::u49::u50::u51::u52::u53::u54::u55::u56::u57::u58::u59::u60::u61::u62::u63::u64::u65::u66::u67::u68::u69::u70::u71::u72::u73::u74::u75::u76::u77::u78::u79::u80::u81::u82::u83::u84::u85::u86::u87::u88::u89::u90::u91::u92::u93::u94::u95::u96::u97::u98::u99::u100::u101::u102::u103::u104::u105::u106::u107::u108::u109::u110::u111::u112::u113::u114::u115::u116::u117::u118::u119::u120::u121::u122::u123::u124::u125::u126::u127::u128::u129::u130::u131::u132::u133::u134::u135::u136::u137::u138::u139::u140::u141::u142::u143::u144::u145::u146::u147::u148::u149::u150::u151::u152::u153::u154::u155::u156::u157::u158::u159::u160::u161::u162::u163::u164::u165::u166::u167::u168::u169::u170::u171::u172::u173::u174::u175::u176::u177::u178::[]).toArray, []⟩) : ∀ a, EsFr v0 v1 x2 x3 v4 a → P a := by
 intro a h
 iterate 174 (obtain ⟨_, h⟩ := h)
 subst h
 apply f
def EsF2 (v0 v1 x2 x3 v4 v5 v7 v135 : Value) (a : Act) : Prop := ∃ u6 u8 u9 u10 u11 u12 u13 u14 u15 u16 u17 u18 u19 u20 u21 u22 u23 u24 u25 u26 u27 u28 u29 u30 u31 u32 u33 u34 u35 u36 u37 u38 u39 u40 u41 u42 u43 u44 u45 u46 u47 u48 u49 u50 u51 u52 u53 u54 u55 u56 u57 u58 u59 u60 u61 u62 u63 u64 u65 u66 u67 u68 u69 u70 u71 u72 u73 u74 u75 u76 u77 u78 u79 u80 u81 u82 u83 u84 u85 u86 u87 u88 u89 u90 u91 u92 u93 u94 u95 u96 u97 u98 u99 u100 u101 u102 u103 u104 u105 u106 u107 u108 u109 u110 u111 u112 u113 u114 u115 u116 u117 u118 u119 u120 u121 u122 u123 u124 u125 u126 u127 u128 u129 u130 u131 u132 u133 u134 u136 u137 u138 u139 u140 u141 u142 u143 u144 u145 u146 u147 u148 u149 u150 u151 u152 u153 u154 u155 u156 u157 u158 u159 u160 u161 u162 u163 u164 u165 u166 u167 u168 u169 u170 u171 u172 u173 u174 u175 u176 u177 u178 : Value, a = ⟨(v0::v1::x2::x3::v4::v5::u6::v7::u8::u9::u10::u11::u12::u13::u14::u15::u16::u17::u18::u19::u20::u21::u22::u23::u24::u25::u26::u27::u28::u29::u30::u31::u32::u33::u34::u35::u36::u37::u38::u39::u40::u41::u42::u43::u44::u45::u46::u47::u48::u49::u50::u51::u52::u53::u54::u55::u56::u57::u58::u59::u60::u61::u62::u63::u64::u65::u66::u67::u68::u69::u70::u71::u72::u73::u74::u75::u76::u77::u78::u79::u80::u81::u82::u83::u84::u85::u86::u87::u88::u89::u90::u91::u92::u93::u94::u95::u96::u97::u98::u99::u100::u101::u102::u103::u104::u105::u106::u107::u108::u109::u110::u111::u112::u113::u114::u115::u116::u117::u118::u119::u120::u121::u122::u123::u124::u125::u126::u127::u128::u129::u130::u131::u132::u133::u134::v135::u136::u137::u138::u139::u140::u141::u142::u143::u144::u145::u146::u147::u148::u149::u150::u151::u152::u153::u154::u155::u156::u157::u158::u159::u160::u161::u162::u163::u164::u165::u166::u167::u168::u169::u170::u171::u172::u173::u174::u175::u176::u177::u178::[]).toArray, []⟩
theorem EsF2.mk {v0 v1 x2 x3 v4 v5 v7 v135 : Value} {u6 u8 u9 u10 u11 u12 u13 u14 u15 u16 u17 u18 u19 u20 u21 u22 u23 u24 u25 u26 u27 u28 u29 u30 u31 u32 u33 u34 u35 u36 u37 u38 u39 u40 u41 u42 u43 u44 u45 u46 u47 u48 u49 u50 u51 u52 u53 u54 u55 u56 u57 u58 u59 u60 u61 u62 u63 u64 u65 u66 u67 u68 u69 u70 u71 u72 u73 u74 u75 u76 u77 u78 u79 u80 u81 u82 u83 u84 u85 u86 u87 u88 u89 u90 u91 u92 u93 u94 u95 u96 u97 u98 u99 u100 u101 u102 u103 u104 u105 u106 u107 u108 u109 u110 u111 u112 u113 u114 u115 u116 u117 u118 u119 u120 u121 u122 u123 u124 u125 u126 u127 u128 u129 u130 u131 u132 u133 u134 u136 u137 u138 u139 u140 u141 u142 u143 u144 u145 u146 u147 u148 u149 u150 u151 u152 u153 u154 u155 u156 u157 u158 u159 u160 u161 u162 u163 u164 u165 u166 u167 u168 u169 u170 u171 u172 u173 u174 u175 u176 u177 u178 : Value} : EsF2 v0 v1 x2 x3 v4 v5 v7 v135 ⟨(v0::v1::x2::x3::v4::v5::u6::v7::u8::u9::u10::u11::u12::u13::u14::u15::u16::u17::u18::u19::u20::u21::u22::u23::u24::u25::u26::u27::u28::u29::u30::u31::u32::u33::u34::u35::u36::u37::u38::u39::u40::u41::u42::u43::u44::u45::u46::u47::u48::u49::u50::u51::u52::u53::u54::u55::u56::u57::u58::u59::u60::u61::u62::u63::u64::u65::u66::u67::u68::u69::u70::u71::u72::u73::u74::u75::u76::u77::u78::u79::u80::u81::u82::u83::u84::u85::u86::u87::u88::u89::u90::u91::u92::u93::u94::u95::u96::u97::u98::u99::u100::u101::u102::u103::u104::u105::u106::u107::u108::u109::u110::u111::u112::u113::u114::u115::u116::u117::u118::u119::u120::u121::u122::u123::u124::u125::u126::u127::u128::u129::u130::u131::u132::u133::u134::v135::u136::u137::u138::u139::u140::u141::u142::u143::u144::u145::u146::u147::u148::u149::u150::u151::u152::u153::u154::u155::u156::u157::u158::u159::u160::u161::u162::u163::u164::u165::u166::u167::u168::u169::u170::u171::u172::u173::u174::u175::u176::u177::u178::[]).toArray, []⟩ := by
 unfold EsF2
 iterate 171 (apply Exists.intro)
 rfl
theorem EsF2.all {P : Act → Prop} {v0 v1 x2 x3 v4 v5 v7 v135 : Value} (f : ∀ u6 u8 u9 u10 u11 u12 u13 u14 u15 u16 u17 u18 u19 u20 u21 u22 u23 u24 u25 u26 u27 u28 u29 u30 u31 u32 u33 u34 u35 u36 u37 u38 u39 u40 u41 u42 u43 u44 u45 u46 u47 u48 u49 u50 u51 u52 u53 u54 u55 u56 u57 u58 u59 u60 u61 u62 u63 u64 u65 u66 u67 u68 u69 u70 u71 u72 u73 u74 u75 u76 u77 u78 u79 u80 u81 u82 u83 u84 u85 u86 u87 u88 u89 u90 u91 u92 u93 u94 u95 u96 u97 u98 u99 u100 u101 u102 u103 u104 u105 u106 u107 u108 u109 u110 u111 u112 u113 u114 u115 u116 u117 u118 u119 u120 u121 u122 u123 u124 u125 u126 u127 u128 u129 u130 u131 u132 u133 u134 u136 u137 u138 u139 u140 u141 u142 u143 u144 u145 u146 u147 u148 u149 u150 u151 u152 u153 u154 u155 u156 u157 u158 u159 u160 u161 u162 u163 u164 u165 u166 u167 u168 u169 u170 u171 u172 u173 u174 u175 u176 u177 u178 : Value, P ⟨(v0::v1::x2::x3::v4::v5::u6::v7::u8::u9::u10::u11::u12::u13::u14::u15::u16::u17::u18::u19::u20::u21::u22::u23::u24::u25::u26::u27::u28::u29::u30::u31::u32::u33::u34::u35::u36::u37::u38::u39::u40::u41::u42::u43::u44::u45::u46::u47::u48::u49::u50::u51::u52::u53::u54::u55::u56::u57::u58::u59::u60::u61::u62::u63::u64::u65::u66::u67::u68::u69::u70::u71::u72::u73::u74::u75::u76::u77::u78::u79::u80::u81::u82::u83::u84::u85::u86::u87::u88::u89::u90::u91::u92::u93::u94::u95::u96::u97::u98::u99::u100::u101::u102::u103::u104::u105::u106::u107::u108::u109::u110::u111::u112::u113::u114::u115::u116::u117::u118::u119::u120::u121::u122::u123::u124::u125::u126::u127::u128::u129::u130::u131::u132::u133::u134::v135::u136::u137::u138::u139::u140::u141::u142::u143::u144::u145::u146::u147::u148::u149::u150::u151::u152::u153::u154::u155::u156::u157::u158::u159::u160::u161::u162::u163::u164::u165::u166::u167::u168::u169::u170::u171::u172::u173::u174::u175::u176::u177::u178::[]).toArray, []⟩) : ∀ a, EsF2 v0 v1 x2 x3 v4 v5 v7 v135 a → P a := by
 intro a h
 iterate 171 (obtain ⟨_, h⟩ := h)
 subst h
 apply f
def EsJ (w wr : World) (eb : Nat) (pg : Pg) (gA lA pA : Option Addr) (gc lc pc ni : Nat) (cur : List Ic) (base : Nat) (Z : Nat → Prop) (l : List St) (j : Nat) : Prop :=
 ∃ A1 n1 c1 c1', c1' = cur ++ emSs (envP pg) ni (l.take j) ∧ wr.heap[eb]? = some (.cells #[.slice gA pg.globals.length gc, .slice lA pg.locks.length lc, .slice pA pg.procs.length pc, .slice A1 n1 c1] 56 (0, 0)) ∧ GrwI base Z wr (.slice A1 n1 c1) c1' ∧ Keep (Fz base Z eb) w wr
def IfE (u0 w' : World) (xs : ByteArray) (tk tn : Int) (ts : ByteArray) (tA bA oA : Option Addr) (tm tc bc oc : Nat) (t : Tm) (body els : List St) (eb sb : Nat) (pg : Pg) (gA lA pA : Option Addr) (gc lc pc : Nat) (base : Nat) (Zs : Nat → Prop) (n0 : Nat) (cu0 : List Ic) : Prop :=
 ∃ A' n' c' cu', cu' = cu0 ++ emT (envP pg) n0 (.mk 2 xs t body els) ∧ w'.heap[eb]? = some (.cells #[.slice gA pg.globals.length gc, .slice lA pg.locks.length lc, .slice pA pg.procs.length pc, .slice A' n' c'] 56 (0, 0)) ∧ w'.heap[sb]? = some (.cells #[.int .i64 2, .string xs, .int .i64 tk, .int .i64 tn, .string ts, .slice tA tm tc, .slice bA body.length bc, .slice oA els.length oc] 71 (0, 0)) ∧ GrwI base Zs w' (.slice A' n' c') cu' ∧ Keep (Fz base Zs eb) u0 w'
theorem StRow.kept {S S' : Nat → Prop} {w w' : World} {A : Option Addr} {l : List St} (h : StRow S w A l) (hk : Keep S w w') (hs : ∀ i, i < w.heap.size → S i → S' i) : StRow S' w' A l := h.keep (fun _ hp hS => hk.cell hp hS) hs
theorem StIs.kept {S S' : Nat → Prop} {w w' : World} {x : V8} {g : St} (h : StIs S w x g) (hk : Keep S w w') (hs : ∀ i, i < w.heap.size → S i → S' i) : StIs S' w' x g := h.keep (fun _ hp hS => hk.cell hp hS) hs
section
variable {σ : Type} (f : σ → St → σ × Bool)
mutual
def visT (f : σ → St → σ × Bool) (st : σ) : St → σ × Bool
 | .mk k s t body els =>
  match f st (.mk k s t body els) with
  | (s1, false) => (s1, false)
  | (s1, true) => match visTs f s1 body with
   | (s2, false) => (s2, false)
   | (s2, true) => visTs f s2 els
def visTs (f : σ → St → σ × Bool) (st : σ) : List St → σ × Bool
 | [] => (st, true)
 | g :: r => match visT f st g with
  | (s1, false) => (s1, false)
  | (s1, true) => visTs f s1 r
end
end
structure Uses (σ : Type) where
 k : Nat
 caps : Array Value
 f : σ → St → σ × Bool
 I : σ → World → Prop
 K : σ → World → Nat → Prop
 Bd : σ → Nat → Prop
structure Uses.Ok {σ : Type} (U : Uses σ) : Prop where
 step : ∀ (st : σ) (n : Nat) (x : V8) (g : St) (w : World), U.Bd st (n + 1) → U.I st w → StIs (U.K st w) w x g →
  Calls Tryz.prog U.k (#[.agg #[.int .i64 x.k, .string x.s, .int .i64 x.tk, .int .i64 x.tn, .string x.ts, .slice x.tA x.tm x.tc, .slice x.bA x.bm x.bc, .slice x.eA x.em x.ec]] ++ U.caps) w fun e w' =>
   e = .returned (.bool (U.f st g).2) ∧ U.I (U.f st g).1 w' ∧ Keep (U.K st w) w w' ∧ (∀ i, i < w.heap.size → U.K st w i → U.K (U.f st g).1 w' i) ∧ U.Bd (U.f st g).1 n
 enter : ∀ (args : Array Value) (w : World), (callFunc U.k args).run Tryz.prog w = .ok (.enter U.k args) w
 new : ∀ (st : σ) (w : World) (cs : Array Value), U.I st w → U.I st (w.alloc (.cells cs 71)) ∧ U.K st (w.alloc (.cells cs 71)) w.heap.size ∧ ∀ i, i < w.heap.size → U.K st w i → U.K st (w.alloc (.cells cs 71)) i
 less : ∀ (st : σ) (m n : Nat), m ≤ n → U.Bd st n → U.Bd st m
abbrev VsC {σ : Type} (U : Uses σ) (l : List St) : Prop := ∀ (st : σ) (n : Nat) (A : Option Addr) (c : Nat) (w : World), U.Bd st (n + snodess l) → U.I st w → StRow (U.K st w) w A l → l.length ≤ c → c ≤ maxLen →
 Calls Tryz.prog 77 #[.slice A l.length c, .func (.func U.k) #[] U.caps] w fun e w' =>
  e = .returned (.bool (visTs U.f st l).2) ∧ U.I (visTs U.f st l).1 w' ∧ Keep (U.K st w) w w' ∧ (∀ i, i < w.heap.size → U.K st w i → U.K (visTs U.f st l).1 w' i) ∧ U.Bd (visTs U.f st l).1 n
theorem visTs_take {σ : Type} (f : σ → St → σ × Bool) (st : σ) (l : List St) (j : Nat) (hj : j < l.length) (h : (visTs f st (l.take j)).2 = true) : visTs f st (l.take (j + 1)) = visT f (visTs f st (l.take j)).1 l[j] := by
 induction l generalizing st j with
 | nil => simp at hj
 | cons g r ih =>
  cases j with
  | zero =>
   simp only [List.take_succ_cons, List.take_zero, visTs, List.getElem_cons_zero]
   split <;> rename_i e <;> rw [e]
  | succ j =>
   simp only [List.take_succ_cons, visTs, List.getElem_cons_succ] at h ⊢
   split
   ·rename_i e; rw [e] at h; simp at h
   ·rename_i s1 e
    rw [e] at h
    exact ih s1 j (by simpa using hj) h
theorem visTs_stop {σ : Type} (f : σ → St → σ × Bool) (st : σ) (l : List St) (j : Nat) (hj : j ≤ l.length) (h : (visTs f st (l.take j)).2 = false) : visTs f st l = visTs f st (l.take j) := by
 induction l generalizing st j with
 | nil => simp
 | cons g r ih =>
  cases j with
  | zero => simp [visTs] at h
  | succ j =>
   simp only [List.take_succ_cons, visTs] at h ⊢
   split
   ·rfl
   ·rename_i s1 e
    rw [e] at h
    exact ih s1 j (by simpa using hj) h
theorem snodess_append (l r : List St) : snodess (l ++ r) = snodess l + snodess r := by
 induction l with
 | nil => simp [snodess]
 | cons y t ih => rw [List.cons_append, snodess, snodess, ih]; omega
theorem snodess_drop (l : List St) (j : Nat) (h : j < l.length) : snodess (l.drop j) = snodes l[j] + snodess (l.drop (j + 1)) := by
 rw [List.drop_eq_getElem_cons h, snodess]
theorem impl_visitStmts_at {σ : Type} (U : Uses σ) (ok : U.Ok) (l : List St) (ih : ∀ g ∈ l, ∀ t k s body els, g = .mk k s t body els → VsC U body ∧ VsC U els) : VsC U l := by
 intro st n A c w hbd hI row hl hc
 unfold maxLen at hc
 have OK := qh ok
 have IH := qh ih
 have RW := qh row
 have BD := qh hbd
 have II := qh hI
 clear ok ih row hbd hI
 go_enter Tryz.func77, Tryz.ntmps77
 go_wp2_with fail
 go_loopw [9] (fun i wr => ∃ j : Nat, j ≤ l.length ∧ i = .int .i64 j ∧ Hid ((visTs U.f st (l.take j)).2 = true ∧ U.I (visTs U.f st (l.take j)).1 wr ∧ Keep (U.K st w) w wr ∧ (∀ i, i < w.heap.size → U.K st w i → U.K (visTs U.f st (l.take j)).1 wr i) ∧ U.Bd (visTs U.f st (l.take j)).1 (n + snodess (l.drop j)))) (fun i _ => l.length - (intOf i).toNat)
 case atStart => exact ⟨0, Nat.zero_le _, rfl, qh ⟨rfl, II.out, Keep.refl _ _, fun _ _ h => h, BD.out⟩⟩
 case round =>
  obtain ⟨j, hj, rfl, HR⟩ := hrel
  by_cases hlt : j < l.length
  ·obtain ⟨hv, hIj, hkp, hmon, hbd⟩ := HR.out
   have hsn := snodess_drop l j hlt
   have htk := visTs_take U.f st l j hlt hv
   have hstop := visTs_stop U.f st l (j + 1) hlt
   generalize hst : (visTs U.f st (l.take j)).1 = sj at *
   obtain ⟨b, off, x, rfl, _, ⟨d0, d1, d2, d3, d4, d5, d6, d7⟩, hg⟩ := rd_stmt (RW.out.kept hkp hmon) hlt
   obtain ⟨t, body, els, heq, _, _, _, hb1, hb2, hb3, rb, he1, he2, he3, re⟩ := hg.inv
   have VB := qh (IH.out l[j] (List.getElem_mem hlt) t _ _ body els heq).1
   have VE := qh (IH.out l[j] (List.getElem_mem hlt) t _ _ body els heq).2
   have hsg : snodes l[j] = 1 + snodess body + snodess els := by rw [heq, snodes]
   have BD1 : Hid (U.Bd sj ((n + snodess (l.drop (j + 1)) + snodess els + snodess body) + 1)) := qh (by rw [show n + snodess (l.drop (j + 1)) + snodess els + snodess body + 1 = n + snodess (l.drop j) from by omega]; exact hbd)
   have VT : Hid (visT U.f sj l[j] = match U.f sj l[j] with | (s1, false) => (s1, false) | (s1, true) => match visTs U.f s1 body with | (s2, false) => (s2, false) | (s2, true) => visTs U.f s2 els) := qh (by rw [heq, visT])
   have HTK := qh htk
   have HSTOP := qh hstop
   have IJ := qh hIj
   have KP := qh hkp
   have MON := qh hmon
   have HG := qh hg
   have RB := qh rb
   have RE := qh re
   obtain ⟨xk, xs, tk, tn, ts, tA, tm, tc, bA, bm, bc, eA, em, ec⟩ := x
   simp only at hb1 he1 hb2 hb3 he2 he3 d0 d1 d2 d3 d4 d5 d6 d7 RB RE
   subst hb1 he1
   have h0k : (0 : Int) ≤ (j : Int) := by omega
   have hent := OK.out.enter
   clear hv hIj hkp hmon hbd hsn htk hstop hst hg rb re heq hsg HR
   go_wp2_with fail
   obtain ⟨n1, n2, n3⟩ := OK.out.new sj wr #[.int .i64 xk, .string xs, .int .i64 tk, .int .i64 tn, .string ts, .slice tA tm tc, .slice bA body.length bc, .slice eA els.length ec] IJ.out
   refine (OK.out.step sj _ ⟨xk, xs, tk, tn, ts, tA, tm, tc, bA, body.length, bc, eA, els.length, ec⟩ l[j] _ BD1.out n1 (HG.out.kept (Keep.of_below (Below.alloc (Below.refl _ _) (Nat.le_refl _) _)) n3)).mono ?_
   rintro e w1 ⟨rfl, i1, k1, m1, bd1⟩
   have FAR := qh n2
   have HN3 := qh n3
   clear n1 n2 n3
   have u6 : w1.cell? ⟨wr.heap.size, 6, none⟩ = some (.slice bA body.length bc) := k1.cellEq FAR.out (by rw [World.cell?_alloc_new]; rfl)
   have u7 : w1.cell? ⟨wr.heap.size, 7, none⟩ = some (.slice eA els.length ec) := k1.cellEq FAR.out (by rw [World.cell?_alloc_new]; rfl)
   have KW1 := qh (Keep.trans (Keep.of_below (S := U.K sj wr) (Below.alloc (Below.refl _ _) (Nat.le_refl _) _)) k1 HN3.out)
   have M1 : Hid (∀ i, i < wr.heap.size → U.K sj wr i → U.K (U.f sj l[j]).1 w1 i) := qh (fun i hi h => m1 i (by simp; omega) (HN3.out i hi h))
   have MF : Hid (U.K (U.f sj l[j]).1 w1 wr.heap.size) := qh (m1 _ (by simp) FAR.out)
   have I1 := qh i1
   have BD2 := qh bd1
   have hz1 : wr.heap.size < w1.heap.size := by have := k1.size; simp at this; omega
   clear i1 k1 m1 bd1 d0 d1 d2 d3 d4 d5 d6 d7 BD1
   generalize hf : U.f sj l[j] = r1 at *
   obtain ⟨s1, b1⟩ := r1
   simp only at I1 BD2 M1 MF
   cases b1
   ·have E := VT.out
    simp only at E
    have HE := qh E
    clear E hf
    go_wp2_with fail
    go_ret
    have e1 := HTK.out.trans HE.out
    have e2 := HSTOP.out (by rw [e1])
    rw [e2, e1]
    exact ⟨rfl, I1.out, KP.out.trans KW1.out MON.out, fun i hi h => M1.out i (by have := KP.out.size; omega) (MON.out i hi h), OK.out.less _ _ _ (by omega) BD2.out⟩
   ·have E := VT.out
    simp only at E
    have HE := qh E
    clear E hf
    go_wp2_with fail
    refine (VB.out s1 _ bA bc _ BD2.out I1.out (RB.out.kept KW1.out (fun i hi h => M1.out i hi h)) hb2 hb3).mono ?_
    rintro e w2 ⟨rfl, i2, k2, m2, bd2⟩
    have v7 : w2.cell? ⟨wr.heap.size, 7, none⟩ = some (.slice eA els.length ec) := k2.cellEq MF.out u7
    have KW2 := qh (Keep.trans KW1.out k2 (fun i hi h => M1.out i hi h))
    have M2 : Hid (∀ i, i < wr.heap.size → U.K sj wr i → U.K (visTs U.f s1 body).1 w2 i) := qh (fun i hi h => m2 i (by omega) (M1.out i hi h))
    have I2 := qh i2
    have BD3 := qh bd2
    have hz2 : wr.heap.size < w2.heap.size := by have := k2.size; omega
    clear i2 k2 m2 bd2 u6 u7 BD2 VT
    generalize hf2 : visTs U.f s1 body = r2 at *
    obtain ⟨s2, b2⟩ := r2
    simp only at I2 BD3 M2
    cases b2
    ·have E := HE.out
     simp only at E
     have HE2 := qh E
     clear E hf2 HE
     go_wp2_with fail
     go_ret
     have e1 := HTK.out.trans HE2.out
     have e2 := HSTOP.out (by rw [e1])
     rw [e2, e1]
     exact ⟨rfl, I2.out, KP.out.trans KW2.out MON.out, fun i hi h => M2.out i (by have := KP.out.size; omega) (MON.out i hi h), OK.out.less _ _ _ (by omega) BD3.out⟩
    ·have E := HE.out
     simp only at E
     have HE2 := qh E
     clear E hf2 HE
     go_wp2_with fail
     refine (VE.out s2 _ eA ec _ BD3.out I2.out (RE.out.kept KW2.out (fun i hi h => M2.out i hi h)) he2 he3).mono ?_
     rintro e w3 ⟨rfl, i3, k3, m3, bd3⟩
     have KW3 := qh (Keep.trans KW2.out k3 (fun i hi h => M2.out i hi h))
     have M3 : Hid (∀ i, i < wr.heap.size → U.K sj wr i → U.K (visTs U.f s2 els).1 w3 i) := qh (fun i hi h => m3 i (by omega) (M2.out i hi h))
     have I3 := qh i3
     have BD4 := qh bd3
     clear i3 k3 m3 bd3 v7 BD3
     generalize hf3 : visTs U.f s2 els = r3 at *
     obtain ⟨s3, b3⟩ := r3
     simp only at I3 BD4 M3
     have HE3 := qh (HTK.out.trans HE2.out)
     clear hf3 HE2 HTK
     cases b3
     ·go_wp2_with fail
      go_ret
      have e2 := HSTOP.out (by rw [HE3.out])
      rw [e2, HE3.out]
      exact ⟨rfl, I3.out, KP.out.trans KW3.out MON.out, fun i hi h => M3.out i (by have := KP.out.size; omega) (MON.out i hi h), OK.out.less _ _ _ (by omega) BD4.out⟩
     ·go_wp2_with fail
      go_roundw
      case rel => exact ⟨j + 1, by omega, by go_num, qh (by rw [HE3.out]; exact ⟨rfl, I3.out, KP.out.trans KW3.out MON.out, fun i hi h => M3.out i (by have := KP.out.size; omega) (MON.out i hi h), BD4.out⟩)⟩
      case measure => simp [intOf]; omega
  ·go_wp2_with fail
   go_ret
   have := HR.out
   rw [List.take_of_length_le (by omega), List.drop_of_length_le (by omega)] at this
   exact ⟨ret_bool this.1.symm, this.2.1, this.2.2.1, this.2.2.2.1, this.2.2.2.2⟩
theorem impl_visitStmts {σ : Type} (U : Uses σ) (ok : U.Ok) (l : List St) : VsC U l := by
 induction hN : snodess l using Nat.strongRecOn generalizing l with
 | ind N ih =>
  refine impl_visitStmts_at U ok l fun g hg t k s body els e => ?_
  have := snodess_le hg
  have h2 : snodes g = 1 + snodess body + snodess els := by rw [e, snodes]
  exact ⟨ih _ (by omega) body rfl, ih _ (by omega) els rfl⟩
end Go.Proofs.YtnmblfonmfjoeaaGreatDoor
