/- Lemmas for the row. -/
import Derived.Test.YtnmblfonmfjoeaaGreatDoorKc20
import Derived.Laws.EntriesVeiled
namespace Go.Proofs.YtnmblfonmfjoeaaGreatDoor
open Go.RowKit
set_option maxHeartbeats 1600000
set_option linter.unusedVariables false
def unkF (p : Pg) (acc : List ByteArray) (g : St) : List ByteArray × Bool := (headG p.globals p.locks (pnames p.procs) acc g, true)
mutual
theorem unk_visT (p : Pg) (acc : List ByteArray) : (g : St) → visT (unkF p) acc g = (unkG p.globals p.locks (pnames p.procs) acc g, true)
 | .mk k s t b e => by
  rw [visT, unkF]
  simp only [headG]
  rw [unk_visTs p _ b]
  simp only
  rw [unk_visTs p _ e, unkG_mk]
theorem unk_visTs (p : Pg) (acc : List ByteArray) : (l : List St) → visTs (unkF p) acc l = (unkGs p.globals p.locks (pnames p.procs) acc l, true)
 | [] => by rw [visTs, unkGs]
 | g :: r => by
  rw [visTs, unk_visT p acc g]
  simp only
  rw [unk_visTs p _ r, unkGs]
end
def unkU (W1 : World) (p : Pg) (go gk gp gq : Nat) : Uses (List ByteArray) where
 k := 78
 caps := #[.pointer (some ⟨gk, 0, none⟩), .pointer (some ⟨gp, 0, none⟩), .pointer (some ⟨gq, 0, none⟩)]
 f := unkF p
 I := fun acc w => (∃ v, OutAt W1.heap.size go w v acc) ∧ Keep (fun i => i ≠ go) W1 w
 K := fun _ w i => i ≠ go ∧ (i < W1.heap.size ∨ Sane 9 w i)
 Bd := fun acc n => acc.length + 128 * n ≤ 10000000
theorem unkU_f (W1 : World) (p : Pg) (go gk gp gq : Nat) : (unkU W1 p go gk gp gq).f = unkF p := rfl
theorem unkU_ok (W0 W1 : World) (p : Pg) (x : V3) (go gk gp gq : Nat) (qv : Value) (base : Nat) (E : UnkEnv W0 W1 p x go gk gp gq qv base) : (unkU W1 p go gk gp gq).Ok where
 step := by
  rintro acc m x g w hbd ⟨⟨v, ho⟩, hk⟩ hs
  have hbd' : acc.length + 128 * (m + 1) ≤ 10000000 := hbd
  refine (unk_step W0 W1 p _ go gk gp gq qv base E acc x g w v (by omega) ho hk hs).mono ?_
  rintro e w' ⟨he, v', ho', hg⟩
  have hK : ∀ i, (i ≠ go ∧ (i < W1.heap.size ∨ Sane 9 w i)) → i ≠ go ∧ v.ownBlock ≠ some i := fun i hi => ⟨hi.1, fun e => by
   rcases hi.2 with h | h
   ·have := (ho.own.lt i e).1; omega
   ·exact ho.own.ne h e⟩
  have hk' : Keep (fun i => i ≠ go ∧ (i < W1.heap.size ∨ Sane 9 w i)) w w' := hg.keep.mono fun i _ hi => hK i hi
  refine ⟨he, ⟨⟨v', ho'⟩, hk.trans hk' fun i hi h => ⟨h, .inl hi⟩⟩, hk', fun i hi h => ⟨h.1, ?_⟩, ?_⟩
  ·rcases h.2 with h2 | h2
   ·exact .inl h2
   ·exact .inr fun cur e => h2 cur ((hk'.block i hi h).symm.trans e)
  have := headG_len p.globals p.locks (pnames p.procs) acc g
  show (headG p.globals p.locks (pnames p.procs) acc g).length + 128 * m ≤ 10000000
  omega
 enter := fun args w => by kernel_rfl
 new := by
  rintro acc w cs ⟨⟨v, ho⟩, hk⟩
  refine ⟨⟨⟨v, ho.alloc _⟩, hk.alloc _⟩, ⟨?_, .inr (sane_new (by decide))⟩, fun i hi hK => ⟨hK.1, hK.2.elim .inl fun h => .inr fun cur e => h cur ((heap_alloc_lt hi).symm.trans e)⟩⟩
  have := lt_of_block ho.at'; omega
 less := fun st m n h k => by
  have k' : st.length + 128 * n ≤ 10000000 := k
  show st.length + 128 * m ≤ 10000000
  omega
theorem OwnB.toStrs {base : Nat} {w0 w : World} {v : Value} {ss : List ByteArray} (h : OwnB base w v ss) (hb : Below w0.heap.size w0 w) (hle : w0.heap.size ≤ base) : OwnStrs w0 w v ss := by
 refine ⟨⟨h.1.1, ?_⟩, hb⟩
 rcases h.1.2 with h' | ⟨g, cap, cur, e, hg, r⟩
 ·exact .inl h'
 ·exact .inr ⟨g, cap, cur, e, Nat.le_trans hle hg, r⟩
theorem fit_bound {p : Pg} (h : okPg p = true) {k : Nat} (hk : k < p.procs.length) : snodess p.procs[k].body ≤ 60 := by
 have := List.all_eq_true.1 (okPg_procs h).2 _ (List.getElem_mem hk)
 unfold okPr at this
 rw [Bool.and_eq_true] at this
 exact (fit_inv this.2).2
set_option maxRecDepth 100000 in
theorem impl_unknownOf (p : Pg) (x : V3) (w : World) (hp : PgIs w x p) (hok : okPg p = true) :
  Calls Tryz.prog 46 #[x.val p] w fun e w' => ∃ v', e = .returned v' ∧ OwnStrs w w' v' (unkP p.globals p.locks (pnames p.procs) p.procs) := by
 have HP := qh hp
 have OK := qh hok
 have hpn := (okPg_procs hok).1
 have hpl := hp.p1
 have hpc := hp.p2
 unfold maxLen at hpc
 obtain ⟨gA, gc, lA, lc, pA, pc⟩ := x
 unfold V3.val
 simp only at hpl hpc ⊢
 clear hp hok
 go_enter Tryz.func46, Tryz.ntmps46
 go_wp2_with fail
 refine (impl_procNames p ⟨gA, gc, lA, lc, pA, pc⟩ _ (HP.out.belowA zB) (by omega)).mono ?_
 rintro e w1 ⟨A1, c1, rfl, own1⟩
 have O1 := qh own1
 have b1 := own1.2
 have H1 : Hid (Below w.heap.size w w1) := qh (Below.trans zB (b1.mono (by simp; omega)))
 have hz1 : w.heap.size + 1 < w1.heap.size := by have := b1.size; simp at this; omega
 have BX : Hid (BoxB w1 w.heap.size [.slice gA p.globals.length gc, .slice lA p.locks.length lc, .slice pA p.procs.length pc]) := qh (BoxB.below (BoxB.below (BoxB.lit rfl) (Below.alloc (Below.refl _ _) (Nat.le_refl _) (.cells #[.slice none 0 0] 24))) b1)
 have GO : Hid (w1.heap[w.heap.size + 1]? = some (.cells #[.slice none 0 0] 24 (0, 0))) := qh (by
  have := heap_alloc_new (w.alloc (.cells #[.slice gA p.globals.length gc, .slice lA p.locks.length lc, .slice pA p.procs.length pc] 27)) (.cells #[.slice none 0 0] 24)
  rw [show (w.alloc (.cells #[.slice gA p.globals.length gc, .slice lA p.locks.length lc, .slice pA p.procs.length pc] 27)).heap.size = w.heap.size + 1 from by simp] at this
  exact (b1.block _ (by simp)).trans this)
 have p0 := BX.out 0 _ rfl
 have p1 := BX.out 1 _ rfl
 have p2 := BX.out 2 _ rfl
 have hz0 : w.heap.size < w1.heap.size := by omega
 clear own1 b1
 go_wp2_with fail
 generalize hW : (w1.alloc (.cells #[.slice A1 (pnames p.procs).length c1] 24)).alloc (.cells #[.func (.func 75) #[] #[.pointer (some ⟨w.heap.size + 1, 0, none⟩)]] 97) = W1
 have b11 : Below w1.heap.size w1 W1 := by rw [← hW]; exact Below.alloc (Below.alloc (Below.refl _ _) (Nat.le_refl _) _) (by simp) _
 have hz3 : W1.heap.size = w1.heap.size + 2 := by rw [← hW]; simp
 have E : Hid (UnkEnv w W1 p ⟨gA, gc, lA, lc, pA, pc⟩ (w.heap.size + 1) (w1.heap.size + 1) w.heap.size w1.heap.size (.slice A1 (pnames p.procs).length c1) ((w.alloc (.cells #[.slice gA p.globals.length gc, .slice lA p.locks.length lc, .slice pA p.procs.length pc] 27)).alloc (.cells #[.slice none 0 0] 24)).heap.size) := qh {
  hp := HP.out
  b01 := H1.out.trans (b11.mono H1.out.size)
  go0 := by omega
  gk1 := by
   rw [← hW]
   have := World.cell?_alloc_new (w1.alloc (.cells #[.slice A1 (pnames p.procs).length c1] 24)) #[.func (.func 75) #[] #[.pointer (some ⟨w.heap.size + 1, 0, none⟩)]] 97 0
   rw [show (w1.alloc (.cells #[.slice A1 (pnames p.procs).length c1] 24)).heap.size = w1.heap.size + 1 from by simp] at this
   exact this
  gp1 := BX.out.below b11
  gq1 := by
   rw [← hW]
   refine cell_keep (Below.alloc (Below.refl _ _) (Nat.le_refl _) _) ?_
   rw [World.cell?_alloc_new]; rfl
  q := by rw [← hW]; exact ((OwnB.of_strs O1.out).alloc _).alloc _
  so := sane_below (sane_of GO.out (by decide)) (by omega) b11
  nk := by omega
  np := by omega
  nq := by omega }
 have OO : Hid (OutAt W1.heap.size (w.heap.size + 1) W1 (.slice none 0 0) []) := qh ⟨(b11.block _ (by omega)).trans GO.out, ⟨World.ownsRow_nil _ _ _ _, Nat.le_refl _⟩⟩
 clear hW b11 p0 p1 p2 BX GO O1
 go_loopw [14] (fun i wr => ∃ k : Nat, k ≤ p.procs.length ∧ i = .int .i64 k ∧ Hid ((∃ v, OutAt W1.heap.size (w.heap.size + 1) wr v (unkP p.globals p.locks (pnames p.procs) (p.procs.take k))) ∧ Keep (fun i => i ≠ w.heap.size + 1) W1 wr ∧ (unkP p.globals p.locks (pnames p.procs) (p.procs.take k)).length + 128 * (60 * (8 - k)) ≤ 10000000)) (fun i _ => p.procs.length - (intOf i).toNat)
 case atStart => exact ⟨0, Nat.zero_le _, rfl, qh ⟨⟨_, OO.out⟩, Keep.refl _ _, by simp [unkP]⟩⟩
 case round =>
  obtain ⟨k, hk, rfl, HR⟩ := hrel
  obtain ⟨⟨v, ho⟩, hkp, hbd⟩ := HR.out
  have HO := qh ho
  have HK := qh hkp
  have BW := qh (E.out.b01.trans (hkp.below E.out.b01.size (fun b hb => by omega)))
  by_cases hlt : k < p.procs.length
  ·obtain ⟨b, off, y, rfl, d0, d1, hnm, hym, _, hbc, hcm, row⟩ := rd_proc HP.out.p3 hlt
   replace d0 := cell_keep BW.out d0
   replace d1 := cell_keep BW.out d1
   rw [hym] at d1
   have ROW := qh row
   have hlb := cell_lt d0
   have hsn := fit_bound OK.out hlt
   have HT := qh (unkP_take p.globals p.locks (pnames p.procs) p.procs k hlt)
   have h0k : (0 : Int) ≤ (k : Int) := by omega
   have hzr := HK.out.size
   clear hnm hym row ho hkp HR
   go_wp2_with fail
   refine (impl_visitStmts (unkU W1 p (w.heap.size + 1) (w1.heap.size + 1) w.heap.size w1.heap.size) (unkU_ok w W1 p _ _ _ _ _ _ _ E.out) p.procs[k].body (unkP p.globals p.locks (pnames p.procs) (p.procs.take k)) (60 * (8 - (k + 1))) y.A y.c _ ?_ ⟨⟨_, HO.out.alloc _⟩, HK.out.alloc _⟩ ?_ hbc hcm).mono ?_
   ·show (unkP p.globals p.locks (pnames p.procs) (p.procs.take k)).length + 128 * (60 * (8 - (k + 1)) + snodess p.procs[k].body) ≤ 10000000
    omega
   ·exact ROW.out.keep (fun q hq _ => (Below.trans BW.out ((Below.alloc (Below.refl _ _) (Nat.le_refl _) _).mono BW.out.size)).cell hq) (fun i hi _ => ⟨by omega, .inl (by omega)⟩)
   rintro e w5 ⟨rfl, ⟨⟨v5, o5⟩, k5⟩, _, _, bd5⟩
   rw [unkU_f, unk_visTs] at o5 bd5
   simp only at o5
   rw [← HT.out] at o5 bd5
   have R5 : Hid ((∃ v, OutAt W1.heap.size (w.heap.size + 1) w5 v (unkP p.globals p.locks (pnames p.procs) (p.procs.take (k + 1)))) ∧ Keep (fun i => i ≠ w.heap.size + 1) W1 w5 ∧ (unkP p.globals p.locks (pnames p.procs) (p.procs.take (k + 1))).length + 128 * (60 * (8 - (k + 1))) ≤ 10000000) := qh ⟨⟨v5, o5⟩, k5, bd5⟩
   clear o5 k5 bd5
   go_wp2_with fail
   go_roundw
   case rel => exact ⟨k + 1, by omega, by go_num, R5⟩
   case measure => simp [intOf]; omega
  ·have TK : Hid (p.procs.take k = p.procs) := qh (List.take_of_length_le (by omega))
   have c1 := cell_of_one ho.at'
   obtain ⟨A7, c7, rfl, _⟩ := ho.own.strs.slice
   clear ho hkp HR
   go_wp2_with fail
   go_ret
   have := HO.out.own
   rw [TK.out] at this ⊢
   exact ⟨_, rfl, this.toStrs BW.out (by have := E.out.b01.size; omega)⟩
theorem spec_UnknownIn (p : Pg) (x : V3) (w : World) (hp : PgIs w x p) (htot : totPg p ≤ 1048576) :
  Calls Tryz.prog 53 #[x.val p] w fun e w' => ∃ v', e = .returned v' ∧ OwnStrs w w' v' (unkR p) := by
 have HP := qh hp
 have hpl := hp.p1
 have hpc := hp.p2
 obtain ⟨gA, gc, lA, lc, pA, pc⟩ := x
 unfold V3.val
 simp only at hpl hpc ⊢
 unfold maxLen at hpc
 clear hp
 have OE : Hid (OwnStrs w ((w.alloc (.cells #[.slice gA p.globals.length gc, .slice lA p.locks.length lc, .slice pA p.procs.length pc] 27)).alloc (.cells #[] 9)) (.slice (some ⟨w.heap.size + 1, 0, none⟩) 0 0) []) := qh (by
  have OE : OwnStrs w ((w.alloc (.cells #[.slice gA p.globals.length gc, .slice lA p.locks.length lc, .slice pA p.procs.length pc] 27)).alloc (.cells #[] 9)) (.slice (some ⟨(w.alloc (.cells #[.slice gA p.globals.length gc, .slice lA p.locks.length lc, .slice pA p.procs.length pc] 27)).heap.size, 0, none⟩) 0 0) [] := OwnStrs.empty zB
  rwa [show (w.alloc (.cells #[.slice gA p.globals.length gc, .slice lA p.locks.length lc, .slice pA p.procs.length pc] 27)).heap.size = w.heap.size + 1 from by simp] at OE)
 have SE : Hid (Sane 9 ((w.alloc (.cells #[.slice gA p.globals.length gc, .slice lA p.locks.length lc, .slice pA p.procs.length pc] 27)).alloc (.cells #[] 9)) w.heap.size) := qh (sane_below (sane_new (by decide)) (by simp) (Below.alloc (Below.refl _ _) (Nat.le_refl _) _))
 have BE : Hid (BoxB ((w.alloc (.cells #[.slice gA p.globals.length gc, .slice lA p.locks.length lc, .slice pA p.procs.length pc] 27)).alloc (.cells #[] 9)) w.heap.size [.slice gA p.globals.length gc, .slice lA p.locks.length lc, .slice pA p.procs.length pc]) := qh (BoxB.below (BoxB.lit rfl) (Below.alloc (Below.refl _ _) (Nat.le_refl _) _))
 cases h : okPg p with
 | false =>
  have HU := qh (unkR_no h)
  have HH := qh h
  clear h
  go_enter Tryz.func53, Tryz.ntmps53
  go_wp2_with fail
  go_loopw [3, 4] (fun lv i wr => i = .int .i64 0 ∧ lv = .slice (some ⟨w.heap.size + 1, 0, none⟩) 0 0 ∧ Hid (OwnStrs w wr (.slice (some ⟨w.heap.size + 1, 0, none⟩) 0 0) []) ∧ Hid (BoxB wr w.heap.size [.slice gA p.globals.length gc, .slice lA p.locks.length lc, .slice pA p.procs.length pc])) (fun _ i _ => 1 - (intOf i).toNat)
  case atStart => exact ⟨rfl, rfl, OE, BE⟩
  case round =>
   obtain ⟨rfl, rfl, HO, HB⟩ := hrel
   have p0 := HB.out 0 _ rfl
   have p1 := HB.out 1 _ rfl
   have p2 := HB.out 2 _ rfl
   go_wp2_with fail
   refine (spec_ProgOk p ⟨gA, gc, lA, lc, pA, pc⟩ _ (HP.out.belowA HO.out.2) htot).mono ?_
   rintro e w1 ⟨rfl, b1⟩
   have O1 := qh (HO.out.below b1)
   rw [HH.out]
   clear b1
   go_wp2_with fail
   go_ret
   exact ⟨_, rfl, by rw [HU.out]; exact O1.out⟩
 | true =>
  have HU := qh (unkR_yes h)
  have HH := qh h
  have hpn := (okPg_procs h).1
  clear h
  go_enter Tryz.func53, Tryz.ntmps53
  go_wp2_with fail
  go_loopw [3, 4] (fun lv i wr => ∃ k : Nat, k ≤ p.procs.length ∧ i = .int .i64 k ∧ ∃ A' c', lv = .slice A' (unkP p.globals p.locks (pnames p.procs) (p.procs.take k)).length c' ∧ Hid (OwnStrs w wr (.slice A' (unkP p.globals p.locks (pnames p.procs) (p.procs.take k)).length c') (unkP p.globals p.locks (pnames p.procs) (p.procs.take k))) ∧ Hid (BoxB wr w.heap.size [.slice gA p.globals.length gc, .slice lA p.locks.length lc, .slice pA p.procs.length pc]) ∧ Hid (Sane 9 wr w.heap.size)) (fun _ i _ => p.procs.length - (intOf i).toNat)
  case atStart => exact ⟨0, Nat.zero_le _, rfl, _, _, rfl, OE, BE, SE⟩
  case round =>
   obtain ⟨k, hk, rfl, A', c', rfl, HO, HB, HS⟩ := hrel
   have p0 := HB.out 0 _ rfl
   have p1 := HB.out 1 _ rfl
   have p2 := HB.out 2 _ rfl
   have hul := unkP_len p.globals p.locks (pnames p.procs) p.procs k
   have htl := totPrs_take_le p.procs k
   have htp : totPrs p.procs ≤ 1048576 := by have : totPg p = totS p.globals + totS p.locks + totPrs p.procs := rfl; omega
   by_cases hlt : k < p.procs.length
   ·obtain ⟨b, off, y, rfl, d0, d1, hnm, hym, _, hbc, hcm, row⟩ := rd_proc HP.out.p3 hlt
    rw [hym] at d1
    have D1 := qh d1
    have ROW := qh row
    have hlb := cell_lt d0
    have hqt := okPr_quiet HH.out hlt
    have QT := qh hqt
    have htb := tot_body hlt htot
    have HT := qh (unkP_take p.globals p.locks (pnames p.procs) p.procs k hlt)
    have h0k : (0 : Int) ≤ (k : Int) := by omega
    clear hnm hym row d0 d1 hqt
    go_wp2_with fail
    refine (spec_ProgOk p ⟨gA, gc, lA, lc, (some ⟨b, off, none⟩), pc⟩ _ (HP.out.belowA HO.out.2) htot).mono ?_
    rintro e w1 ⟨rfl, b1⟩
    have O1 := qh (HO.out.below b1)
    have X1 := qh (HB.out.below b1)
    have S1 := qh (sane_below HS.out (cell_lt p0) b1)
    have d1 := cell_keep O1.out.2 D1.out
    rw [HH.out]
    clear b1 p0 p1 p2
    have p0 := X1.out 0 _ rfl
    have p1 := X1.out 1 _ rfl
    have p2 := X1.out 2 _ rfl
    have hwl := cell_lt p0
    have D3 := qh d1
    go_wp2_with fail
    go_region_held3 (fun w' => w'.cell? ⟨w.heap.size, 0, none⟩ = some (.slice gA p.globals.length gc) ∧ w'.cell? ⟨w.heap.size, 1, none⟩ = some (.slice lA p.locks.length lc) ∧ w'.cell? ⟨w.heap.size, 2, none⟩ = some (.slice (some ⟨b, off, none⟩) p.procs.length pc) ∧ w'.cell? ⟨b, off + k * 2 + 1, none⟩ = some (.slice y.A p.procs[k].body.length y.c))
     (first | go_keep | exact ⟨kp2.cellT S1.out (X1.out 0 _ rfl), kp2.cellT S1.out (X1.out 1 _ rfl), kp2.cellT S1.out (X1.out 2 _ rfl), cell_keep own2.2 D1.out⟩)
     ((go_at_call 84; (refine (spec_l07Unknown p.procs[k].body p ⟨gA, gc, lA, lc, (some ⟨b, off, none⟩), pc⟩ y.A y.c w _ _ (unkP p.globals p.locks (pnames p.procs) (p.procs.take k)) HP.out ROW.out (by exact O1.out.below (Below.refl _ _).drew) hbc hcm QT.out (by omega) (by omega) htb).mono ?_); rintro e w2 ⟨v2, rfl, own2, kp2⟩))
    have O2 : Hid (OwnStrs w w2 v2 (unkP p.globals p.locks (pnames p.procs) (p.procs.take (k + 1)))) := qh (by rw [HT.out]; exact own2)
    have kq2 := KeepT.trans' (KeepT.of_below' (Below.refl _ _).drew) kp2
    have X2 := qh (X1.out.keepS kq2 S1.out)
    have S2 := qh (sane_keep S1.out hwl kq2)
    obtain ⟨A2, c2, rfl, _⟩ := O2.out.slice
    clear own2 kp2 kq2 p0 p1 p2 d1
    go_wp2_with fail
    go_roundw
    case rel => exact ⟨k + 1, by omega, by go_num, A2, c2, rfl, O2, X2, S2⟩
    case measure => simp [intOf]; omega
   ·have TK : Hid (p.procs.take k = p.procs) := qh (List.take_of_length_le (by omega))
    go_wp2_with fail
    refine (spec_ProgOk p ⟨gA, gc, lA, lc, pA, pc⟩ _ (HP.out.belowA HO.out.2) htot).mono ?_
    rintro e w1 ⟨rfl, b1⟩
    have O1 := qh (HO.out.below b1)
    have X1 := qh (HB.out.below b1)
    rw [HH.out]
    clear b1 p0 p1 p2
    have p0 := X1.out 0 _ rfl
    have p1 := X1.out 1 _ rfl
    have p2 := X1.out 2 _ rfl
    go_wp2_with fail
    go_ret
    have := O1.out
    rw [TK.out] at this ⊢
    exact ⟨_, rfl, by rw [HU.out]; exact this⟩
def mainB : ByteArray := ⟨#[109, 97, 105, 110]⟩
noncomputable def faultR (p : Pg) : Int :=
 if okPg p = false then 1 else if twiceS p.globals = true then 2 else if twiceS p.locks = true then 2 else if twiceS (pnames p.procs) = true then 2
 else if 0 < (unkR p).length then 3 else if hasS (pnames p.procs) mainB = false then 4 else 0
theorem place_neg (ss : List ByteArray) (x : ByteArray) : decide (placeS ss x < 0) = !hasS ss x := by
 have h := placeS_has ss x
 rw [← h, ← decide_not]
 congr 1
 rw [eq_iff_iff]; omega
theorem spec_ProgFault (p : Pg) (x : V3) (w : World) (hp : PgIs w x p) (htot : totPg p ≤ 1048576) :
  Calls Tryz.prog 20 #[x.val p] w fun e w' => e = .returned (.int .i64 (faultR p)) ∧ Below w.heap.size w w' := by
 have HP := qh hp
 obtain ⟨gA, gc, lA, lc, pA, pc⟩ := x
 unfold V3.val
 simp only
 clear hp
 cases hk : okPg p with
 | false =>
  have F : Hid (faultR p = 1) := qh (by unfold faultR; rw [if_pos hk])
  have HK := qh hk
  clear hk
  go_enter Tryz.func20, Tryz.ntmps20
  go_wp2_with fail
  refine (spec_ProgOk p ⟨gA, gc, lA, lc, pA, pc⟩ _ (HP.out.belowA zB) htot).mono ?_
  rintro e w1 ⟨rfl, b1⟩
  have H1 : Hid (Below w.heap.size w w1) := qh (Below.trans zB (b1.mono (by simp)))
  have BX1 : Hid (BoxB w1 w.heap.size [.slice gA p.globals.length gc, .slice lA p.locks.length lc, .slice pA p.procs.length pc]) := qh (BoxB.below (BoxB.lit rfl) b1)
  rw [HK.out]
  clear b1
  go_wp2_with fail
  go_ret
  exact ⟨ret_int F.out.symm, H1.out⟩
 | true =>
 have HK := qh hk
 have hpn := (okPg_procs hk).1
 clear hk
 have hf0 : ¬ okPg p = false := by rw [HK.out]; decide
 have HF0 := qh hf0
 clear hf0
 cases h1 : twiceS p.globals with
 | true =>
  have F : Hid (faultR p = 2) := qh (by unfold faultR; rw [if_neg HF0.out, if_pos h1])
  have HG := qh h1
  clear h1
  go_enter Tryz.func20, Tryz.ntmps20
  go_wp2_with fail
  refine (spec_ProgOk p ⟨gA, gc, lA, lc, pA, pc⟩ _ (HP.out.belowA zB) htot).mono ?_
  rintro e w1 ⟨rfl, b1⟩
  have H1 : Hid (Below w.heap.size w w1) := qh (Below.trans zB (b1.mono (by simp)))
  have BX1 : Hid (BoxB w1 w.heap.size [.slice gA p.globals.length gc, .slice lA p.locks.length lc, .slice pA p.procs.length pc]) := qh (BoxB.below (BoxB.lit rfl) b1)
  rw [HK.out]
  clear b1
  have p0 := BX1.out 0 _ rfl
  have p1 := BX1.out 1 _ rfl
  have p2 := BX1.out 2 _ rfl
  go_wp2_with fail
  refine (spec_l07Twice _ p.globals _ ((HP.out.belowA H1.out).gs)).mono ?_
  rintro e w2 ⟨rfl, qt⟩
  have bq := qt.below
  clear qt
  have H2 := qh (below_then H1.out (bq))
  have BX2 := qh (BX1.out.below (bq))
  rw [HG.out]
  clear bq p0 p1 p2
  have p0 := BX2.out 0 _ rfl
  have p1 := BX2.out 1 _ rfl
  have p2 := BX2.out 2 _ rfl
  go_wp2_with fail
  go_ret
  exact ⟨ret_int F.out.symm, H2.out⟩
 | false =>
 have HG := qh h1
 have HGX : Hid (¬ twiceS p.globals = true) := qh (by rw [h1]; decide)
 clear h1
 cases h1 : twiceS p.locks with
 | true =>
  have F : Hid (faultR p = 2) := qh (by unfold faultR; rw [if_neg HF0.out, if_neg HGX.out, if_pos h1])
  have HL := qh h1
  clear h1
  go_enter Tryz.func20, Tryz.ntmps20
  go_wp2_with fail
  refine (spec_ProgOk p ⟨gA, gc, lA, lc, pA, pc⟩ _ (HP.out.belowA zB) htot).mono ?_
  rintro e w1 ⟨rfl, b1⟩
  have H1 : Hid (Below w.heap.size w w1) := qh (Below.trans zB (b1.mono (by simp)))
  have BX1 : Hid (BoxB w1 w.heap.size [.slice gA p.globals.length gc, .slice lA p.locks.length lc, .slice pA p.procs.length pc]) := qh (BoxB.below (BoxB.lit rfl) b1)
  rw [HK.out]
  clear b1
  have p0 := BX1.out 0 _ rfl
  have p1 := BX1.out 1 _ rfl
  have p2 := BX1.out 2 _ rfl
  go_wp2_with fail
  refine (spec_l07Twice _ p.globals _ ((HP.out.belowA H1.out).gs)).mono ?_
  rintro e w2 ⟨rfl, qt⟩
  have bq := qt.below
  clear qt
  have H2 := qh (below_then H1.out (bq))
  have BX2 := qh (BX1.out.below (bq))
  rw [HG.out]
  clear bq p0 p1 p2
  have p0 := BX2.out 0 _ rfl
  have p1 := BX2.out 1 _ rfl
  have p2 := BX2.out 2 _ rfl
  go_wp2_with fail
  refine (spec_l07Twice _ p.locks _ ((HP.out.belowA H2.out).ls)).mono ?_
  rintro e w3 ⟨rfl, qt⟩
  have bq := qt.below
  clear qt
  have H3 := qh (below_then H2.out (bq))
  have BX3 := qh (BX2.out.below (bq))
  rw [HL.out]
  clear bq p0 p1 p2
  have p0 := BX3.out 0 _ rfl
  have p1 := BX3.out 1 _ rfl
  have p2 := BX3.out 2 _ rfl
  go_wp2_with fail
  go_ret
  exact ⟨ret_int F.out.symm, H3.out⟩
 | false =>
 have HL := qh h1
 have HLX : Hid (¬ twiceS p.locks = true) := qh (by rw [h1]; decide)
 clear h1
 cases h1 : twiceS (pnames p.procs) with
 | true =>
  have F : Hid (faultR p = 2) := qh (by unfold faultR; rw [if_neg HF0.out, if_neg HGX.out, if_neg HLX.out, if_pos h1])
  have HN := qh h1
  clear h1
  go_enter Tryz.func20, Tryz.ntmps20
  go_wp2_with fail
  refine (spec_ProgOk p ⟨gA, gc, lA, lc, pA, pc⟩ _ (HP.out.belowA zB) htot).mono ?_
  rintro e w1 ⟨rfl, b1⟩
  have H1 : Hid (Below w.heap.size w w1) := qh (Below.trans zB (b1.mono (by simp)))
  have BX1 : Hid (BoxB w1 w.heap.size [.slice gA p.globals.length gc, .slice lA p.locks.length lc, .slice pA p.procs.length pc]) := qh (BoxB.below (BoxB.lit rfl) b1)
  rw [HK.out]
  clear b1
  have p0 := BX1.out 0 _ rfl
  have p1 := BX1.out 1 _ rfl
  have p2 := BX1.out 2 _ rfl
  go_wp2_with fail
  refine (spec_l07Twice _ p.globals _ ((HP.out.belowA H1.out).gs)).mono ?_
  rintro e w2 ⟨rfl, qt⟩
  have bq := qt.below
  clear qt
  have H2 := qh (below_then H1.out (bq))
  have BX2 := qh (BX1.out.below (bq))
  rw [HG.out]
  clear bq p0 p1 p2
  have p0 := BX2.out 0 _ rfl
  have p1 := BX2.out 1 _ rfl
  have p2 := BX2.out 2 _ rfl
  go_wp2_with fail
  refine (spec_l07Twice _ p.locks _ ((HP.out.belowA H2.out).ls)).mono ?_
  rintro e w3 ⟨rfl, qt⟩
  have bq := qt.below
  clear qt
  have H3 := qh (below_then H2.out (bq))
  have BX3 := qh (BX2.out.below (bq))
  rw [HL.out]
  clear bq p0 p1 p2
  have p0 := BX3.out 0 _ rfl
  have p1 := BX3.out 1 _ rfl
  have p2 := BX3.out 2 _ rfl
  go_wp2_with fail
  refine (spec_l07Procs p ⟨gA, gc, lA, lc, pA, pc⟩ _ (HP.out.belowA H3.out) (by omega)).mono ?_
  rintro e w4 ⟨An, cn, rfl, ownn⟩
  have H4 := qh (below_then H3.out (ownn.2))
  have BX4 := qh (BX3.out.below (ownn.2))
  have ON := qh ownn
  clear ownn p0 p1 p2
  have p0 := BX4.out 0 _ rfl
  have p1 := BX4.out 1 _ rfl
  have p2 := BX4.out 2 _ rfl
  go_wp2_with fail
  refine (spec_l07Twice _ (pnames p.procs) _ (ON.out.isStrs)).mono ?_
  rintro e w5 ⟨rfl, qt⟩
  have bq := qt.below
  clear qt
  have H5 := qh (below_then H4.out (bq))
  have BX5 := qh (BX4.out.below (bq))
  rw [HN.out]
  clear bq p0 p1 p2
  have p0 := BX5.out 0 _ rfl
  have p1 := BX5.out 1 _ rfl
  have p2 := BX5.out 2 _ rfl
  go_wp2_with fail
  go_ret
  exact ⟨ret_int F.out.symm, H5.out⟩
 | false =>
 have HN := qh h1
 have HNX : Hid (¬ twiceS (pnames p.procs) = true) := qh (by rw [h1]; decide)
 clear h1
 rcases Nat.eq_zero_or_pos (unkR p).length with hu | hu
 case inr =>
  have F : Hid (faultR p = 3) := qh (by unfold faultR; rw [if_neg HF0.out, if_neg HGX.out, if_neg HLX.out, if_neg HNX.out, if_pos hu])
  have hu1 : (0 : Int) < ((unkR p).length : Int) := by omega
  have hu2 : decide ((0 : Int) < ((unkR p).length : Int)) = true := decide_eq_true hu1
  go_enter Tryz.func20, Tryz.ntmps20
  go_wp2_with fail
  refine (spec_ProgOk p ⟨gA, gc, lA, lc, pA, pc⟩ _ (HP.out.belowA zB) htot).mono ?_
  rintro e w1 ⟨rfl, b1⟩
  have H1 : Hid (Below w.heap.size w w1) := qh (Below.trans zB (b1.mono (by simp)))
  have BX1 : Hid (BoxB w1 w.heap.size [.slice gA p.globals.length gc, .slice lA p.locks.length lc, .slice pA p.procs.length pc]) := qh (BoxB.below (BoxB.lit rfl) b1)
  rw [HK.out]
  clear b1
  have p0 := BX1.out 0 _ rfl
  have p1 := BX1.out 1 _ rfl
  have p2 := BX1.out 2 _ rfl
  go_wp2_with fail
  refine (spec_l07Twice _ p.globals _ ((HP.out.belowA H1.out).gs)).mono ?_
  rintro e w2 ⟨rfl, qt⟩
  have bq := qt.below
  clear qt
  have H2 := qh (below_then H1.out (bq))
  have BX2 := qh (BX1.out.below (bq))
  rw [HG.out]
  clear bq p0 p1 p2
  have p0 := BX2.out 0 _ rfl
  have p1 := BX2.out 1 _ rfl
  have p2 := BX2.out 2 _ rfl
  go_wp2_with fail
  refine (spec_l07Twice _ p.locks _ ((HP.out.belowA H2.out).ls)).mono ?_
  rintro e w3 ⟨rfl, qt⟩
  have bq := qt.below
  clear qt
  have H3 := qh (below_then H2.out (bq))
  have BX3 := qh (BX2.out.below (bq))
  rw [HL.out]
  clear bq p0 p1 p2
  have p0 := BX3.out 0 _ rfl
  have p1 := BX3.out 1 _ rfl
  have p2 := BX3.out 2 _ rfl
  go_wp2_with fail
  refine (spec_l07Procs p ⟨gA, gc, lA, lc, pA, pc⟩ _ (HP.out.belowA H3.out) (by omega)).mono ?_
  rintro e w4 ⟨An, cn, rfl, ownn⟩
  have H4 := qh (below_then H3.out (ownn.2))
  have BX4 := qh (BX3.out.below (ownn.2))
  have ON := qh ownn
  clear ownn p0 p1 p2
  have p0 := BX4.out 0 _ rfl
  have p1 := BX4.out 1 _ rfl
  have p2 := BX4.out 2 _ rfl
  go_wp2_with fail
  refine (spec_l07Twice _ (pnames p.procs) _ (ON.out.isStrs)).mono ?_
  rintro e w5 ⟨rfl, qt⟩
  have bq := qt.below
  clear qt
  have H5 := qh (below_then H4.out (bq))
  have BX5 := qh (BX4.out.below (bq))
  rw [HN.out]
  clear bq p0 p1 p2
  have p0 := BX5.out 0 _ rfl
  have p1 := BX5.out 1 _ rfl
  have p2 := BX5.out 2 _ rfl
  go_wp2_with fail
  refine (spec_UnknownIn p ⟨gA, gc, lA, lc, pA, pc⟩ _ (HP.out.belowA H5.out) htot).mono ?_
  rintro e w6 ⟨vu, rfl, ownu⟩
  have H6 := qh (below_then H5.out (ownu.2))
  have BX6 := qh (BX5.out.below (ownu.2))
  obtain ⟨Au, cu, rfl, _⟩ := ownu.slice
  clear ownu p0 p1 p2
  have p0 := BX6.out 0 _ rfl
  have p1 := BX6.out 1 _ rfl
  have p2 := BX6.out 2 _ rfl
  go_wp2_with fail
  go_ret
  exact ⟨ret_int F.out.symm, H6.out⟩
 have HU := qh hu
 have HUX : Hid (¬ 0 < (unkR p).length) := qh (by omega)
 clear hu
 cases h1 : hasS (pnames p.procs) mainB with
 | false =>
  have F : Hid (faultR p = 4) := qh (by unfold faultR; rw [if_neg HF0.out, if_neg HGX.out, if_neg HLX.out, if_neg HNX.out, if_neg HUX.out, if_pos h1])
  have HM : Hid (decide (placeS (pnames p.procs) mainB < 0) = true) := qh (by rw [place_neg, h1]; rfl)
  clear h1
  go_enter Tryz.func20, Tryz.ntmps20
  go_wp2_with fail
  refine (spec_ProgOk p ⟨gA, gc, lA, lc, pA, pc⟩ _ (HP.out.belowA zB) htot).mono ?_
  rintro e w1 ⟨rfl, b1⟩
  have H1 : Hid (Below w.heap.size w w1) := qh (Below.trans zB (b1.mono (by simp)))
  have BX1 : Hid (BoxB w1 w.heap.size [.slice gA p.globals.length gc, .slice lA p.locks.length lc, .slice pA p.procs.length pc]) := qh (BoxB.below (BoxB.lit rfl) b1)
  rw [HK.out]
  clear b1
  have p0 := BX1.out 0 _ rfl
  have p1 := BX1.out 1 _ rfl
  have p2 := BX1.out 2 _ rfl
  go_wp2_with fail
  refine (spec_l07Twice _ p.globals _ ((HP.out.belowA H1.out).gs)).mono ?_
  rintro e w2 ⟨rfl, qt⟩
  have bq := qt.below
  clear qt
  have H2 := qh (below_then H1.out (bq))
  have BX2 := qh (BX1.out.below (bq))
  rw [HG.out]
  clear bq p0 p1 p2
  have p0 := BX2.out 0 _ rfl
  have p1 := BX2.out 1 _ rfl
  have p2 := BX2.out 2 _ rfl
  go_wp2_with fail
  refine (spec_l07Twice _ p.locks _ ((HP.out.belowA H2.out).ls)).mono ?_
  rintro e w3 ⟨rfl, qt⟩
  have bq := qt.below
  clear qt
  have H3 := qh (below_then H2.out (bq))
  have BX3 := qh (BX2.out.below (bq))
  rw [HL.out]
  clear bq p0 p1 p2
  have p0 := BX3.out 0 _ rfl
  have p1 := BX3.out 1 _ rfl
  have p2 := BX3.out 2 _ rfl
  go_wp2_with fail
  refine (spec_l07Procs p ⟨gA, gc, lA, lc, pA, pc⟩ _ (HP.out.belowA H3.out) (by omega)).mono ?_
  rintro e w4 ⟨An, cn, rfl, ownn⟩
  have H4 := qh (below_then H3.out (ownn.2))
  have BX4 := qh (BX3.out.below (ownn.2))
  have ON := qh ownn
  clear ownn p0 p1 p2
  have p0 := BX4.out 0 _ rfl
  have p1 := BX4.out 1 _ rfl
  have p2 := BX4.out 2 _ rfl
  go_wp2_with fail
  refine (spec_l07Twice _ (pnames p.procs) _ (ON.out.isStrs)).mono ?_
  rintro e w5 ⟨rfl, qt⟩
  have bq := qt.below
  clear qt
  have H5 := qh (below_then H4.out (bq))
  have BX5 := qh (BX4.out.below (bq))
  rw [HN.out]
  clear bq p0 p1 p2
  have p0 := BX5.out 0 _ rfl
  have p1 := BX5.out 1 _ rfl
  have p2 := BX5.out 2 _ rfl
  go_wp2_with fail
  refine (spec_UnknownIn p ⟨gA, gc, lA, lc, pA, pc⟩ _ (HP.out.belowA H5.out) htot).mono ?_
  rintro e w6 ⟨vu, rfl, ownu⟩
  have H6 := qh (below_then H5.out (ownu.2))
  have BX6 := qh (BX5.out.below (ownu.2))
  obtain ⟨Au, cu, rfl, _⟩ := ownu.slice
  clear ownu p0 p1 p2
  have p0 := BX6.out 0 _ rfl
  have p1 := BX6.out 1 _ rfl
  have p2 := BX6.out 2 _ rfl
  rw [HU.out]
  go_wp2_with fail
  refine (spec_ProcAt p ⟨gA, gc, lA, lc, pA, pc⟩ mainB _ (HP.out.belowA H6.out)).mono ?_
  rintro e w7 ⟨rfl, bp⟩
  have H7 := qh (below_then H6.out (bp))
  have BX7 := qh (BX6.out.below (bp))
  clear bp p0 p1 p2
  have hm := HM.out
  go_wp2_with fail
  go_ret
  exact ⟨ret_int F.out.symm, H7.out⟩
 | true =>
  have F : Hid (faultR p = 0) := qh (by unfold faultR; rw [if_neg HF0.out, if_neg HGX.out, if_neg HLX.out, if_neg HNX.out, if_neg HUX.out, if_neg (by rw [h1]; decide)])
  have HM : Hid (decide (placeS (pnames p.procs) mainB < 0) = false) := qh (by rw [place_neg, h1]; rfl)
  clear h1
  go_enter Tryz.func20, Tryz.ntmps20
  go_wp2_with fail
  refine (spec_ProgOk p ⟨gA, gc, lA, lc, pA, pc⟩ _ (HP.out.belowA zB) htot).mono ?_
  rintro e w1 ⟨rfl, b1⟩
  have H1 : Hid (Below w.heap.size w w1) := qh (Below.trans zB (b1.mono (by simp)))
  have BX1 : Hid (BoxB w1 w.heap.size [.slice gA p.globals.length gc, .slice lA p.locks.length lc, .slice pA p.procs.length pc]) := qh (BoxB.below (BoxB.lit rfl) b1)
  rw [HK.out]
  clear b1
  have p0 := BX1.out 0 _ rfl
  have p1 := BX1.out 1 _ rfl
  have p2 := BX1.out 2 _ rfl
  go_wp2_with fail
  refine (spec_l07Twice _ p.globals _ ((HP.out.belowA H1.out).gs)).mono ?_
  rintro e w2 ⟨rfl, qt⟩
  have bq := qt.below
  clear qt
  have H2 := qh (below_then H1.out (bq))
  have BX2 := qh (BX1.out.below (bq))
  rw [HG.out]
  clear bq p0 p1 p2
  have p0 := BX2.out 0 _ rfl
  have p1 := BX2.out 1 _ rfl
  have p2 := BX2.out 2 _ rfl
  go_wp2_with fail
  refine (spec_l07Twice _ p.locks _ ((HP.out.belowA H2.out).ls)).mono ?_
  rintro e w3 ⟨rfl, qt⟩
  have bq := qt.below
  clear qt
  have H3 := qh (below_then H2.out (bq))
  have BX3 := qh (BX2.out.below (bq))
  rw [HL.out]
  clear bq p0 p1 p2
  have p0 := BX3.out 0 _ rfl
  have p1 := BX3.out 1 _ rfl
  have p2 := BX3.out 2 _ rfl
  go_wp2_with fail
  refine (spec_l07Procs p ⟨gA, gc, lA, lc, pA, pc⟩ _ (HP.out.belowA H3.out) (by omega)).mono ?_
  rintro e w4 ⟨An, cn, rfl, ownn⟩
  have H4 := qh (below_then H3.out (ownn.2))
  have BX4 := qh (BX3.out.below (ownn.2))
  have ON := qh ownn
  clear ownn p0 p1 p2
  have p0 := BX4.out 0 _ rfl
  have p1 := BX4.out 1 _ rfl
  have p2 := BX4.out 2 _ rfl
  go_wp2_with fail
  refine (spec_l07Twice _ (pnames p.procs) _ (ON.out.isStrs)).mono ?_
  rintro e w5 ⟨rfl, qt⟩
  have bq := qt.below
  clear qt
  have H5 := qh (below_then H4.out (bq))
  have BX5 := qh (BX4.out.below (bq))
  rw [HN.out]
  clear bq p0 p1 p2
  have p0 := BX5.out 0 _ rfl
  have p1 := BX5.out 1 _ rfl
  have p2 := BX5.out 2 _ rfl
  go_wp2_with fail
  refine (spec_UnknownIn p ⟨gA, gc, lA, lc, pA, pc⟩ _ (HP.out.belowA H5.out) htot).mono ?_
  rintro e w6 ⟨vu, rfl, ownu⟩
  have H6 := qh (below_then H5.out (ownu.2))
  have BX6 := qh (BX5.out.below (ownu.2))
  obtain ⟨Au, cu, rfl, _⟩ := ownu.slice
  clear ownu p0 p1 p2
  have p0 := BX6.out 0 _ rfl
  have p1 := BX6.out 1 _ rfl
  have p2 := BX6.out 2 _ rfl
  rw [HU.out]
  go_wp2_with fail
  refine (spec_ProcAt p ⟨gA, gc, lA, lc, pA, pc⟩ mainB _ (HP.out.belowA H6.out)).mono ?_
  rintro e w7 ⟨rfl, bp⟩
  have H7 := qh (below_then H6.out (bp))
  have BX7 := qh (BX6.out.below (bp))
  clear bp p0 p1 p2
  have hm := HM.out
  go_wp2_with fail
  go_ret
  exact ⟨ret_int F.out.symm, H7.out⟩
theorem impl_ProgFault (p : Pg) (x : V3) (w : World) (hp : PgIs w x p) (htot : totPg p ≤ 1048576) :
  Calls Tryz.prog 16 #[x.val p] w fun e w' => e = .returned (.int .i64 (faultR p)) ∧ Below w.heap.size w w' := by
 have HP := qh hp
 obtain ⟨gA, gc, lA, lc, pA, pc⟩ := x
 unfold V3.val
 simp only
 clear hp
 cases hk : okPg p with
 | false =>
  have F : Hid (faultR p = 1) := qh (by unfold faultR; rw [if_pos hk])
  have HK := qh hk
  clear hk
  go_enter Tryz.func16, Tryz.ntmps16
  go_wp2_with fail
  refine (impl_ProgOk p ⟨gA, gc, lA, lc, pA, pc⟩ _ (HP.out.belowA zB) htot).mono ?_
  rintro e w1 ⟨rfl, b1⟩
  have H1 : Hid (Below w.heap.size w w1) := qh (Below.trans zB (b1.mono (by simp)))
  have BX1 : Hid (BoxB w1 w.heap.size [.slice gA p.globals.length gc, .slice lA p.locks.length lc, .slice pA p.procs.length pc]) := qh (BoxB.below (BoxB.lit rfl) b1)
  rw [HK.out]
  clear b1
  go_wp2_with fail
  go_ret
  exact ⟨ret_int F.out.symm, H1.out⟩
 | true =>
 have HK := qh hk
 have hpn := (okPg_procs hk).1
 clear hk
 have hf0 : ¬ okPg p = false := by rw [HK.out]; decide
 have HF0 := qh hf0
 clear hf0
 cases h1 : twiceS p.globals with
 | true =>
  have F : Hid (faultR p = 2) := qh (by unfold faultR; rw [if_neg HF0.out, if_pos h1])
  have HG := qh h1
  clear h1
  go_enter Tryz.func16, Tryz.ntmps16
  go_wp2_with fail
  refine (impl_ProgOk p ⟨gA, gc, lA, lc, pA, pc⟩ _ (HP.out.belowA zB) htot).mono ?_
  rintro e w1 ⟨rfl, b1⟩
  have H1 : Hid (Below w.heap.size w w1) := qh (Below.trans zB (b1.mono (by simp)))
  have BX1 : Hid (BoxB w1 w.heap.size [.slice gA p.globals.length gc, .slice lA p.locks.length lc, .slice pA p.procs.length pc]) := qh (BoxB.below (BoxB.lit rfl) b1)
  rw [HK.out]
  clear b1
  have p0 := BX1.out 0 _ rfl
  have p1 := BX1.out 1 _ rfl
  have p2 := BX1.out 2 _ rfl
  go_wp2_with fail
  refine (impl_procNames p ⟨gA, gc, lA, lc, pA, pc⟩ _ (HP.out.belowA H1.out) (by omega)).mono ?_
  rintro e w2 ⟨An, cn, rfl, ownn⟩
  have H2 := qh (below_then H1.out (ownn.2))
  have BX2 := qh (BX1.out.below (ownn.2))
  have ON := qh ownn
  clear ownn p0 p1 p2
  have p0 := BX2.out 0 _ rfl
  have p1 := BX2.out 1 _ rfl
  have p2 := BX2.out 2 _ rfl
  go_wp2_with fail
  refine (impl_hasTwice _ p.globals _ ((HP.out.belowA H2.out).gs)).mono ?_
  rintro e w9 ⟨rfl, rfl⟩
  rw [HG.out]
  go_wp2_with fail
  go_ret
  exact ⟨ret_int F.out.symm, H2.out⟩
 | false =>
 have HG := qh h1
 have HGX : Hid (¬ twiceS p.globals = true) := qh (by rw [h1]; decide)
 clear h1
 cases h1 : twiceS p.locks with
 | true =>
  have F : Hid (faultR p = 2) := qh (by unfold faultR; rw [if_neg HF0.out, if_neg HGX.out, if_pos h1])
  have HL := qh h1
  clear h1
  go_enter Tryz.func16, Tryz.ntmps16
  go_wp2_with fail
  refine (impl_ProgOk p ⟨gA, gc, lA, lc, pA, pc⟩ _ (HP.out.belowA zB) htot).mono ?_
  rintro e w1 ⟨rfl, b1⟩
  have H1 : Hid (Below w.heap.size w w1) := qh (Below.trans zB (b1.mono (by simp)))
  have BX1 : Hid (BoxB w1 w.heap.size [.slice gA p.globals.length gc, .slice lA p.locks.length lc, .slice pA p.procs.length pc]) := qh (BoxB.below (BoxB.lit rfl) b1)
  rw [HK.out]
  clear b1
  have p0 := BX1.out 0 _ rfl
  have p1 := BX1.out 1 _ rfl
  have p2 := BX1.out 2 _ rfl
  go_wp2_with fail
  refine (impl_procNames p ⟨gA, gc, lA, lc, pA, pc⟩ _ (HP.out.belowA H1.out) (by omega)).mono ?_
  rintro e w2 ⟨An, cn, rfl, ownn⟩
  have H2 := qh (below_then H1.out (ownn.2))
  have BX2 := qh (BX1.out.below (ownn.2))
  have ON := qh ownn
  clear ownn p0 p1 p2
  have p0 := BX2.out 0 _ rfl
  have p1 := BX2.out 1 _ rfl
  have p2 := BX2.out 2 _ rfl
  go_wp2_with fail
  refine (impl_hasTwice _ p.globals _ ((HP.out.belowA H2.out).gs)).mono ?_
  rintro e w9 ⟨rfl, rfl⟩
  rw [HG.out]
  go_wp2_with fail
  refine (impl_hasTwice _ p.locks _ ((HP.out.belowA H2.out).ls)).mono ?_
  rintro e w9 ⟨rfl, rfl⟩
  rw [HL.out]
  go_wp2_with fail
  go_ret
  exact ⟨ret_int F.out.symm, H2.out⟩
 | false =>
 have HL := qh h1
 have HLX : Hid (¬ twiceS p.locks = true) := qh (by rw [h1]; decide)
 clear h1
 cases h1 : twiceS (pnames p.procs) with
 | true =>
  have F : Hid (faultR p = 2) := qh (by unfold faultR; rw [if_neg HF0.out, if_neg HGX.out, if_neg HLX.out, if_pos h1])
  have HN := qh h1
  clear h1
  go_enter Tryz.func16, Tryz.ntmps16
  go_wp2_with fail
  refine (impl_ProgOk p ⟨gA, gc, lA, lc, pA, pc⟩ _ (HP.out.belowA zB) htot).mono ?_
  rintro e w1 ⟨rfl, b1⟩
  have H1 : Hid (Below w.heap.size w w1) := qh (Below.trans zB (b1.mono (by simp)))
  have BX1 : Hid (BoxB w1 w.heap.size [.slice gA p.globals.length gc, .slice lA p.locks.length lc, .slice pA p.procs.length pc]) := qh (BoxB.below (BoxB.lit rfl) b1)
  rw [HK.out]
  clear b1
  have p0 := BX1.out 0 _ rfl
  have p1 := BX1.out 1 _ rfl
  have p2 := BX1.out 2 _ rfl
  go_wp2_with fail
  refine (impl_procNames p ⟨gA, gc, lA, lc, pA, pc⟩ _ (HP.out.belowA H1.out) (by omega)).mono ?_
  rintro e w2 ⟨An, cn, rfl, ownn⟩
  have H2 := qh (below_then H1.out (ownn.2))
  have BX2 := qh (BX1.out.below (ownn.2))
  have ON := qh ownn
  clear ownn p0 p1 p2
  have p0 := BX2.out 0 _ rfl
  have p1 := BX2.out 1 _ rfl
  have p2 := BX2.out 2 _ rfl
  go_wp2_with fail
  refine (impl_hasTwice _ p.globals _ ((HP.out.belowA H2.out).gs)).mono ?_
  rintro e w9 ⟨rfl, rfl⟩
  rw [HG.out]
  go_wp2_with fail
  refine (impl_hasTwice _ p.locks _ ((HP.out.belowA H2.out).ls)).mono ?_
  rintro e w9 ⟨rfl, rfl⟩
  rw [HL.out]
  go_wp2_with fail
  refine (impl_hasTwice _ (pnames p.procs) _ (ON.out.isStrs)).mono ?_
  rintro e w9 ⟨rfl, rfl⟩
  rw [HN.out]
  go_wp2_with fail
  go_ret
  exact ⟨ret_int F.out.symm, H2.out⟩
 | false =>
 have HN := qh h1
 have HNX : Hid (¬ twiceS (pnames p.procs) = true) := qh (by rw [h1]; decide)
 clear h1
 rcases Nat.eq_zero_or_pos (unkR p).length with hu | hu
 case inr =>
  have F : Hid (faultR p = 3) := qh (by unfold faultR; rw [if_neg HF0.out, if_neg HGX.out, if_neg HLX.out, if_neg HNX.out, if_pos hu])
  have hu1 : (0 : Int) < ((unkR p).length : Int) := by omega
  have hu2 : decide ((0 : Int) < ((unkR p).length : Int)) = true := decide_eq_true hu1
  go_enter Tryz.func16, Tryz.ntmps16
  go_wp2_with fail
  refine (impl_ProgOk p ⟨gA, gc, lA, lc, pA, pc⟩ _ (HP.out.belowA zB) htot).mono ?_
  rintro e w1 ⟨rfl, b1⟩
  have H1 : Hid (Below w.heap.size w w1) := qh (Below.trans zB (b1.mono (by simp)))
  have BX1 : Hid (BoxB w1 w.heap.size [.slice gA p.globals.length gc, .slice lA p.locks.length lc, .slice pA p.procs.length pc]) := qh (BoxB.below (BoxB.lit rfl) b1)
  rw [HK.out]
  clear b1
  have p0 := BX1.out 0 _ rfl
  have p1 := BX1.out 1 _ rfl
  have p2 := BX1.out 2 _ rfl
  go_wp2_with fail
  refine (impl_procNames p ⟨gA, gc, lA, lc, pA, pc⟩ _ (HP.out.belowA H1.out) (by omega)).mono ?_
  rintro e w2 ⟨An, cn, rfl, ownn⟩
  have H2 := qh (below_then H1.out (ownn.2))
  have BX2 := qh (BX1.out.below (ownn.2))
  have ON := qh ownn
  clear ownn p0 p1 p2
  have p0 := BX2.out 0 _ rfl
  have p1 := BX2.out 1 _ rfl
  have p2 := BX2.out 2 _ rfl
  go_wp2_with fail
  refine (impl_hasTwice _ p.globals _ ((HP.out.belowA H2.out).gs)).mono ?_
  rintro e w9 ⟨rfl, rfl⟩
  rw [HG.out]
  go_wp2_with fail
  refine (impl_hasTwice _ p.locks _ ((HP.out.belowA H2.out).ls)).mono ?_
  rintro e w9 ⟨rfl, rfl⟩
  rw [HL.out]
  go_wp2_with fail
  refine (impl_hasTwice _ (pnames p.procs) _ (ON.out.isStrs)).mono ?_
  rintro e w9 ⟨rfl, rfl⟩
  rw [HN.out]
  go_wp2_with fail
  refine (impl_unknownOf p ⟨gA, gc, lA, lc, pA, pc⟩ _ (HP.out.belowA H2.out) HK.out).mono ?_
  rintro e w3 ⟨vu, rfl, ownu⟩
  rw [← unkR_yes HK.out] at ownu
  have H3 := qh (below_then H2.out (ownu.2))
  have BX3 := qh (BX2.out.below (ownu.2))
  have ON2 := qh (ON.out.below ownu.2)
  obtain ⟨Au, cu, rfl, _⟩ := ownu.slice
  clear ownu p0 p1 p2
  have p0 := BX3.out 0 _ rfl
  have p1 := BX3.out 1 _ rfl
  have p2 := BX3.out 2 _ rfl
  go_wp2_with fail
  go_ret
  exact ⟨ret_int F.out.symm, H3.out⟩
 have HU := qh hu
 have HUX : Hid (¬ 0 < (unkR p).length) := qh (by omega)
 clear hu
 cases h1 : hasS (pnames p.procs) mainB with
 | false =>
  have F : Hid (faultR p = 4) := qh (by unfold faultR; rw [if_neg HF0.out, if_neg HGX.out, if_neg HLX.out, if_neg HNX.out, if_neg HUX.out, if_pos h1])
  have HM := qh h1
  clear h1
  go_enter Tryz.func16, Tryz.ntmps16
  go_wp2_with fail
  refine (impl_ProgOk p ⟨gA, gc, lA, lc, pA, pc⟩ _ (HP.out.belowA zB) htot).mono ?_
  rintro e w1 ⟨rfl, b1⟩
  have H1 : Hid (Below w.heap.size w w1) := qh (Below.trans zB (b1.mono (by simp)))
  have BX1 : Hid (BoxB w1 w.heap.size [.slice gA p.globals.length gc, .slice lA p.locks.length lc, .slice pA p.procs.length pc]) := qh (BoxB.below (BoxB.lit rfl) b1)
  rw [HK.out]
  clear b1
  have p0 := BX1.out 0 _ rfl
  have p1 := BX1.out 1 _ rfl
  have p2 := BX1.out 2 _ rfl
  go_wp2_with fail
  refine (impl_procNames p ⟨gA, gc, lA, lc, pA, pc⟩ _ (HP.out.belowA H1.out) (by omega)).mono ?_
  rintro e w2 ⟨An, cn, rfl, ownn⟩
  have H2 := qh (below_then H1.out (ownn.2))
  have BX2 := qh (BX1.out.below (ownn.2))
  have ON := qh ownn
  clear ownn p0 p1 p2
  have p0 := BX2.out 0 _ rfl
  have p1 := BX2.out 1 _ rfl
  have p2 := BX2.out 2 _ rfl
  go_wp2_with fail
  refine (impl_hasTwice _ p.globals _ ((HP.out.belowA H2.out).gs)).mono ?_
  rintro e w9 ⟨rfl, rfl⟩
  rw [HG.out]
  go_wp2_with fail
  refine (impl_hasTwice _ p.locks _ ((HP.out.belowA H2.out).ls)).mono ?_
  rintro e w9 ⟨rfl, rfl⟩
  rw [HL.out]
  go_wp2_with fail
  refine (impl_hasTwice _ (pnames p.procs) _ (ON.out.isStrs)).mono ?_
  rintro e w9 ⟨rfl, rfl⟩
  rw [HN.out]
  go_wp2_with fail
  refine (impl_unknownOf p ⟨gA, gc, lA, lc, pA, pc⟩ _ (HP.out.belowA H2.out) HK.out).mono ?_
  rintro e w3 ⟨vu, rfl, ownu⟩
  rw [← unkR_yes HK.out] at ownu
  have H3 := qh (below_then H2.out (ownu.2))
  have BX3 := qh (BX2.out.below (ownu.2))
  have ON2 := qh (ON.out.below ownu.2)
  obtain ⟨Au, cu, rfl, _⟩ := ownu.slice
  clear ownu p0 p1 p2
  have p0 := BX3.out 0 _ rfl
  have p1 := BX3.out 1 _ rfl
  have p2 := BX3.out 2 _ rfl
  rw [HU.out]
  go_wp2_with fail
  refine (slices_Contains _ (pnames p.procs) mainB _ ON2.out.isStrs).mono ?_
  rintro e w9 ⟨rfl, rfl⟩
  rw [HM.out]
  go_wp2_with fail
  go_ret
  exact ⟨ret_int F.out.symm, H3.out⟩
 | true =>
  have F : Hid (faultR p = 0) := qh (by unfold faultR; rw [if_neg HF0.out, if_neg HGX.out, if_neg HLX.out, if_neg HNX.out, if_neg HUX.out, if_neg (by rw [h1]; decide)])
  have HM := qh h1
  clear h1
  go_enter Tryz.func16, Tryz.ntmps16
  go_wp2_with fail
  refine (impl_ProgOk p ⟨gA, gc, lA, lc, pA, pc⟩ _ (HP.out.belowA zB) htot).mono ?_
  rintro e w1 ⟨rfl, b1⟩
  have H1 : Hid (Below w.heap.size w w1) := qh (Below.trans zB (b1.mono (by simp)))
  have BX1 : Hid (BoxB w1 w.heap.size [.slice gA p.globals.length gc, .slice lA p.locks.length lc, .slice pA p.procs.length pc]) := qh (BoxB.below (BoxB.lit rfl) b1)
  rw [HK.out]
  clear b1
  have p0 := BX1.out 0 _ rfl
  have p1 := BX1.out 1 _ rfl
  have p2 := BX1.out 2 _ rfl
  go_wp2_with fail
  refine (impl_procNames p ⟨gA, gc, lA, lc, pA, pc⟩ _ (HP.out.belowA H1.out) (by omega)).mono ?_
  rintro e w2 ⟨An, cn, rfl, ownn⟩
  have H2 := qh (below_then H1.out (ownn.2))
  have BX2 := qh (BX1.out.below (ownn.2))
  have ON := qh ownn
  clear ownn p0 p1 p2
  have p0 := BX2.out 0 _ rfl
  have p1 := BX2.out 1 _ rfl
  have p2 := BX2.out 2 _ rfl
  go_wp2_with fail
  refine (impl_hasTwice _ p.globals _ ((HP.out.belowA H2.out).gs)).mono ?_
  rintro e w9 ⟨rfl, rfl⟩
  rw [HG.out]
  go_wp2_with fail
  refine (impl_hasTwice _ p.locks _ ((HP.out.belowA H2.out).ls)).mono ?_
  rintro e w9 ⟨rfl, rfl⟩
  rw [HL.out]
  go_wp2_with fail
  refine (impl_hasTwice _ (pnames p.procs) _ (ON.out.isStrs)).mono ?_
  rintro e w9 ⟨rfl, rfl⟩
  rw [HN.out]
  go_wp2_with fail
  refine (impl_unknownOf p ⟨gA, gc, lA, lc, pA, pc⟩ _ (HP.out.belowA H2.out) HK.out).mono ?_
  rintro e w3 ⟨vu, rfl, ownu⟩
  rw [← unkR_yes HK.out] at ownu
  have H3 := qh (below_then H2.out (ownu.2))
  have BX3 := qh (BX2.out.below (ownu.2))
  have ON2 := qh (ON.out.below ownu.2)
  obtain ⟨Au, cu, rfl, _⟩ := ownu.slice
  clear ownu p0 p1 p2
  have p0 := BX3.out 0 _ rfl
  have p1 := BX3.out 1 _ rfl
  have p2 := BX3.out 2 _ rfl
  rw [HU.out]
  go_wp2_with fail
  refine (slices_Contains _ (pnames p.procs) mainB _ ON2.out.isStrs).mono ?_
  rintro e w9 ⟨rfl, rfl⟩
  rw [HM.out]
  go_wp2_with fail
  go_ret
  exact ⟨ret_int F.out.symm, H3.out⟩
end Go.Proofs.YtnmblfonmfjoeaaGreatDoor
