/- Lemmas for the row. -/
import Derived.Test.YtadcebdhgocmhaaKo32
import Derived.Laws.EntriesVeiled
import Derived.Test.YtadcebdhgocmhaaKo29
import Derived.Test.YtadcebdhgocmhaaKo24
namespace Go.Proofs.Ytadcebdhgocmhaa
open Go.RowKit
set_option linter.unusedVariables false
def unkF (p : Pg) (acc : List ByteArray) (g : St) : List ByteArray × Bool := (headG p.globals p.locks (pnames p.procs) acc g, true)
mutual
theorem unk_visT (p : Pg) (acc : List ByteArray) : (g : St) → visT (unkF p) acc g = (unkG p.globals p.locks (pnames p.procs) acc g, true)
  | .mk k s t b e => by
    rw [visT, unkF]
    simp only [headG]
    rw [unk_visTs p _ b]
    simp only
    rw [unk_visTs p _ e, unkG_mk]
theorem unk_visTs (p : Pg) (acc : List ByteArray) : (l : List St) → visTs (unkF p) acc l = (unkGs p.globals p.locks (pnames p.procs) acc l, true)
  | [] => by rw [visTs, unkGs]
  | g :: r => by
    rw [visTs, unk_visT p acc g]
    simp only
    rw [unk_visTs p _ r, unkGs]
end
def unkU (W1 : World) (p : Pg) (go gk gp gq : Nat) : Uses (List ByteArray) where
  k := 72
  caps := #[.pointer (some ⟨gk, 0, none⟩), .pointer (some ⟨gp, 0, none⟩), .pointer (some ⟨gq, 0, none⟩)]
  f := unkF p
  I := fun acc w => (∃ v, OutAt W1.heap.size go w v acc) ∧ Keep (fun i => i ≠ go) W1 w
  K := fun _ w i => i ≠ go ∧ (i < W1.heap.size ∨ Sane 9 w i)
  Bd := fun acc n => acc.length + 128 * n ≤ 10000000
theorem unkU_f (W1 : World) (p : Pg) (go gk gp gq : Nat) : (unkU W1 p go gk gp gq).f = unkF p := rfl
theorem unkU_ok (W0 W1 : World) (p : Pg) (x : V3) (go gk gp gq : Nat) (qv : Value) (base : Nat) (E : UnkEnv W0 W1 p x go gk gp gq qv base) : (unkU W1 p go gk gp gq).Ok where
  step := by
    rintro acc m x g w hbd ⟨⟨v, ho⟩, hk⟩ hs
    have hbd' : acc.length + 128 * (m + 1) ≤ 10000000 := hbd
    refine (unk_step W0 W1 p _ go gk gp gq qv base E acc x g w v (by omega) ho hk hs).mono ?_
    rintro e w' ⟨he, v', ho', hg⟩
    have hK : ∀ i, (i ≠ go ∧ (i < W1.heap.size ∨ Sane 9 w i)) → i ≠ go ∧ v.ownBlock ≠ some i := fun i hi => ⟨hi.1, fun e => by
      rcases hi.2 with h | h
      · have := (ho.own.lt i e).1; omega
      · exact ho.own.ne h e⟩
    have hk' : Keep (fun i => i ≠ go ∧ (i < W1.heap.size ∨ Sane 9 w i)) w w' := hg.keep.mono fun i _ hi => hK i hi
    refine ⟨he, ⟨⟨v', ho'⟩, hk.trans hk' fun i hi h => ⟨h, .inl hi⟩⟩, hk', fun i hi h => ⟨h.1, ?_⟩, ?_⟩
    · rcases h.2 with h2 | h2
      · exact .inl h2
      · exact .inr fun cur e => h2 cur ((hk'.block i hi h).symm.trans e)
    have := headG_len p.globals p.locks (pnames p.procs) acc g
    show (headG p.globals p.locks (pnames p.procs) acc g).length + 128 * m ≤ 10000000
    omega
  enter := fun args w => by kernel_rfl
  new := by
    rintro acc w cs ⟨⟨v, ho⟩, hk⟩
    refine ⟨⟨⟨v, ho.alloc _⟩, hk.alloc _⟩, ⟨?_, .inr (sane_new (by decide))⟩, fun i hi hK => ⟨hK.1, hK.2.elim .inl fun h => .inr fun cur e => h cur ((heap_alloc_lt hi).symm.trans e)⟩⟩
    have := lt_of_block ho.at'; omega
  less := fun st m n h k => by
    have k' : st.length + 128 * n ≤ 10000000 := k
    show st.length + 128 * m ≤ 10000000
    omega
theorem OwnB.toStrs {base : Nat} {w0 w : World} {v : Value} {ss : List ByteArray} (h : OwnB base w v ss) (hb : Below w0.heap.size w0 w) (hle : w0.heap.size ≤ base) : OwnStrs w0 w v ss := by
  refine ⟨⟨h.1.1, ?_⟩, hb⟩
  rcases h.1.2 with h' | ⟨g, cap, cur, e, hg, r⟩
  · exact .inl h'
  · exact .inr ⟨g, cap, cur, e, Nat.le_trans hle hg, r⟩
theorem fit_bound {p : Pg} (h : okPg p = true) {k : Nat} (hk : k < p.procs.length) : snodess p.procs[k].body ≤ 60 := by
  have := List.all_eq_true.1 (okPg_procs h).2 _ (List.getElem_mem hk)
  unfold okPr at this
  rw [Bool.and_eq_true] at this
  exact (fit_inv this.2).2
set_option maxHeartbeats 1600000 in
set_option maxRecDepth 100000 in
theorem impl_unknownOf (p : Pg) (x : V3) (w : World) (hp : PgIs w x p) (hok : okPg p = true) :
    Calls Try.prog 29 #[x.val p] w fun e w' => ∃ v', e = .returned v' ∧ OwnStrs w w' v' (unkP p.globals p.locks (pnames p.procs) p.procs) := by
  have HP := Lib.hid hp
  have OK := Lib.hid hok
  have hpn := (okPg_procs hok).1
  have hpl := hp.p1
  have hpc := hp.p2
  unfold maxLen at hpc
  obtain ⟨gA, gc, lA, lc, pA, pc⟩ := x
  unfold V3.val
  simp only at hpl hpc ⊢
  clear hp hok
  go_enter Try.func29, Try.ntmps29
  go_wp2_with fail
  refine (impl_procNames p ⟨gA, gc, lA, lc, pA, pc⟩ _ (HP.out.belowA (by repeat' first|exact .refl _ _|exact Nat.le_refl _|refine .alloc ?_ ?_ _|refine .setCell ?_ ?_ _|refine .drew ?_|refine below_drewN ?_ _|assumption|(simp;done)|(simp;omega))) (by omega)).mono ?_
  rintro e w1 ⟨A1, c1, rfl, own1⟩
  have O1 := Lib.hid own1
  have b1 := own1.2
  have H1 : Hid (Below w.heap.size w w1) := Lib.hid (Below.trans (by repeat' first|exact .refl _ _|exact Nat.le_refl _|refine .alloc ?_ ?_ _|refine .setCell ?_ ?_ _|refine .drew ?_|refine below_drewN ?_ _|assumption|(simp;done)|(simp;omega)) (b1.mono (by simp; omega)))
  have hz1 : w.heap.size + 1 < w1.heap.size := by have := b1.size; simp at this; omega
  have BX : Hid (BoxB w1 w.heap.size [.slice gA p.globals.length gc, .slice lA p.locks.length lc, .slice pA p.procs.length pc]) := Lib.hid (BoxB.below (BoxB.below (BoxB.lit rfl) (Below.alloc (Below.refl _ _) (Nat.le_refl _) (.cells #[.slice none 0 0] 24))) b1)
  have GO : Hid (w1.heap[w.heap.size + 1]? = some (.cells #[.slice none 0 0] 24 (0, 0))) := Lib.hid (by
    have := heap_alloc_new (w.alloc (.cells #[.slice gA p.globals.length gc, .slice lA p.locks.length lc, .slice pA p.procs.length pc] 27)) (.cells #[.slice none 0 0] 24)
    rw [show (w.alloc (.cells #[.slice gA p.globals.length gc, .slice lA p.locks.length lc, .slice pA p.procs.length pc] 27)).heap.size = w.heap.size + 1 from by simp] at this
    exact (b1.block _ (by simp)).trans this)
  have p0 := BX.out 0 _ rfl
  have p1 := BX.out 1 _ rfl
  have p2 := BX.out 2 _ rfl
  have hz0 : w.heap.size < w1.heap.size := by omega
  clear own1 b1
  go_wp2_with fail
  generalize hW : (w1.alloc (.cells #[.slice A1 (pnames p.procs).length c1] 24)).alloc (.cells #[.func (.func 71) #[] #[.pointer (some ⟨w.heap.size + 1, 0, none⟩)]] 100) = W1
  have b11 : Below w1.heap.size w1 W1 := by rw [← hW]; exact Below.alloc (Below.alloc (Below.refl _ _) (Nat.le_refl _) _) (by simp) _
  have hz3 : W1.heap.size = w1.heap.size + 2 := by rw [← hW]; simp
  have E : Hid (UnkEnv w W1 p ⟨gA, gc, lA, lc, pA, pc⟩ (w.heap.size + 1) (w1.heap.size + 1) w.heap.size w1.heap.size (.slice A1 (pnames p.procs).length c1) ((w.alloc (.cells #[.slice gA p.globals.length gc, .slice lA p.locks.length lc, .slice pA p.procs.length pc] 27)).alloc (.cells #[.slice none 0 0] 24)).heap.size) := Lib.hid {
    hp := HP.out
    b01 := H1.out.trans (b11.mono H1.out.size)
    go0 := by omega
    gk1 := by
      rw [← hW]
      have := World.cell?_alloc_new (w1.alloc (.cells #[.slice A1 (pnames p.procs).length c1] 24)) #[.func (.func 71) #[] #[.pointer (some ⟨w.heap.size + 1, 0, none⟩)]] 100 0
      rw [show (w1.alloc (.cells #[.slice A1 (pnames p.procs).length c1] 24)).heap.size = w1.heap.size + 1 from by simp] at this
      exact this
    gp1 := BX.out.below b11
    gq1 := by
      rw [← hW]
      refine cell_keep (Below.alloc (Below.refl _ _) (Nat.le_refl _) _) ?_
      rw [World.cell?_alloc_new]; rfl
    q := by rw [← hW]; exact ((OwnB.of_strs O1.out).alloc _).alloc _
    so := sane_below (sane_of GO.out (by decide)) (by omega) b11
    nk := by omega
    np := by omega
    nq := by omega }
  have OO : Hid (OutAt W1.heap.size (w.heap.size + 1) W1 (.slice none 0 0) []) := Lib.hid ⟨(b11.block _ (by omega)).trans GO.out, ⟨World.ownsRow_nil _ _ _ _, Nat.le_refl _⟩⟩
  clear hW b11 p0 p1 p2 BX GO O1
  go_loopw [14] (fun i wr => ∃ k : Nat, k ≤ p.procs.length ∧ i = .int .i64 k ∧ Hid ((∃ v, OutAt W1.heap.size (w.heap.size + 1) wr v (unkP p.globals p.locks (pnames p.procs) (p.procs.take k))) ∧ Keep (fun i => i ≠ w.heap.size + 1) W1 wr ∧ (unkP p.globals p.locks (pnames p.procs) (p.procs.take k)).length + 128 * (60 * (8 - k)) ≤ 10000000)) (fun i _ => p.procs.length - (intOf i).toNat)
  case atStart => exact ⟨0, Nat.zero_le _, rfl, Lib.hid ⟨⟨_, OO.out⟩, Keep.refl _ _, by simp [unkP]⟩⟩
  case round =>
    obtain ⟨k, hk, rfl, HR⟩ := hrel
    obtain ⟨⟨v, ho⟩, hkp, hbd⟩ := HR.out
    have HO := Lib.hid ho
    have HK := Lib.hid hkp
    have BW := Lib.hid (E.out.b01.trans (hkp.below E.out.b01.size (fun b hb => by omega)))
    by_cases hlt : k < p.procs.length
    · obtain ⟨b, off, y, rfl, d0, d1, hnm, hym, _, hbc, hcm, row⟩ := rd_proc HP.out.p3 hlt
      replace d0 := cell_keep BW.out d0
      replace d1 := cell_keep BW.out d1
      rw [hym] at d1
      have ROW := Lib.hid row
      have hlb := cell_lt d0
      have hsn := fit_bound OK.out hlt
      have HT := Lib.hid (unkP_take p.globals p.locks (pnames p.procs) p.procs k hlt)
      have h0k : (0 : Int) ≤ (k : Int) := by omega
      have hzr := HK.out.size
      clear hnm hym row ho hkp HR
      go_wp2_with fail
      refine (impl_visitStmts (unkU W1 p (w.heap.size + 1) (w1.heap.size + 1) w.heap.size w1.heap.size) (unkU_ok w W1 p _ _ _ _ _ _ _ E.out) p.procs[k].body (unkP p.globals p.locks (pnames p.procs) (p.procs.take k)) (60 * (8 - (k + 1))) y.A y.c _ ?_ ⟨⟨_, HO.out.alloc _⟩, HK.out.alloc _⟩ ?_ hbc hcm).mono ?_
      · show (unkP p.globals p.locks (pnames p.procs) (p.procs.take k)).length + 128 * (60 * (8 - (k + 1)) + snodess p.procs[k].body) ≤ 10000000
        omega
      · exact ROW.out.keep (fun q hq _ => (Below.trans BW.out ((Below.alloc (Below.refl _ _) (Nat.le_refl _) _).mono BW.out.size)).cell hq) (fun i hi _ => ⟨by omega, .inl (by omega)⟩)
      rintro e w5 ⟨rfl, ⟨⟨v5, o5⟩, k5⟩, _, _, bd5⟩
      rw [unkU_f, unk_visTs] at o5 bd5
      simp only at o5
      rw [← HT.out] at o5 bd5
      have R5 : Hid ((∃ v, OutAt W1.heap.size (w.heap.size + 1) w5 v (unkP p.globals p.locks (pnames p.procs) (p.procs.take (k + 1)))) ∧ Keep (fun i => i ≠ w.heap.size + 1) W1 w5 ∧ (unkP p.globals p.locks (pnames p.procs) (p.procs.take (k + 1))).length + 128 * (60 * (8 - (k + 1))) ≤ 10000000) := Lib.hid ⟨⟨v5, o5⟩, k5, bd5⟩
      clear o5 k5 bd5
      go_wp2_with fail
      go_roundw
      case rel => exact ⟨k + 1, by omega, by go_num, R5⟩
      case measure => simp [intOf]; omega
    · have TK : Hid (p.procs.take k = p.procs) := Lib.hid (List.take_of_length_le (by omega))
      have c1 := cell_of_one ho.at'
      obtain ⟨A7, c7, rfl, _⟩ := ho.own.strs.slice
      clear ho hkp HR
      go_wp2_with fail
      go_ret
      have := HO.out.own
      rw [TK.out] at this ⊢
      exact ⟨_, rfl, this.toStrs BW.out (by have := E.out.b01.size; omega)⟩
set_option maxHeartbeats 1600000 in
theorem spec_UnknownIn (p : Pg) (x : V3) (w : World) (hp : PgIs w x p) (htot : totPg p ≤ 1048576) :
    Calls Try.prog 12 #[x.val p] w fun e w' => ∃ v', e = .returned v' ∧ OwnStrs w w' v' (unkR p) := by
  have HP := Lib.hid hp
  have hpl := hp.p1
  have hpc := hp.p2
  obtain ⟨gA, gc, lA, lc, pA, pc⟩ := x
  unfold V3.val
  simp only at hpl hpc ⊢
  unfold maxLen at hpc
  clear hp
  have OE : Hid (OwnStrs w ((w.alloc (.cells #[.slice gA p.globals.length gc, .slice lA p.locks.length lc, .slice pA p.procs.length pc] 27)).alloc (.cells #[] 9)) (.slice (some ⟨w.heap.size + 1, 0, none⟩) 0 0) []) := Lib.hid (by
    have OE : OwnStrs w ((w.alloc (.cells #[.slice gA p.globals.length gc, .slice lA p.locks.length lc, .slice pA p.procs.length pc] 27)).alloc (.cells #[] 9)) (.slice (some ⟨(w.alloc (.cells #[.slice gA p.globals.length gc, .slice lA p.locks.length lc, .slice pA p.procs.length pc] 27)).heap.size, 0, none⟩) 0 0) [] := OwnStrs.empty (by repeat' first|exact .refl _ _|exact Nat.le_refl _|refine .alloc ?_ ?_ _|refine .setCell ?_ ?_ _|refine .drew ?_|refine below_drewN ?_ _|assumption|(simp;done)|(simp;omega))
    rwa [show (w.alloc (.cells #[.slice gA p.globals.length gc, .slice lA p.locks.length lc, .slice pA p.procs.length pc] 27)).heap.size = w.heap.size + 1 from by simp] at OE)
  have SE : Hid (Sane 9 ((w.alloc (.cells #[.slice gA p.globals.length gc, .slice lA p.locks.length lc, .slice pA p.procs.length pc] 27)).alloc (.cells #[] 9)) w.heap.size) := Lib.hid (sane_below (sane_new (by decide)) (by simp) (Below.alloc (Below.refl _ _) (Nat.le_refl _) _))
  have BE : Hid (BoxB ((w.alloc (.cells #[.slice gA p.globals.length gc, .slice lA p.locks.length lc, .slice pA p.procs.length pc] 27)).alloc (.cells #[] 9)) w.heap.size [.slice gA p.globals.length gc, .slice lA p.locks.length lc, .slice pA p.procs.length pc]) := Lib.hid (BoxB.below (BoxB.lit rfl) (Below.alloc (Below.refl _ _) (Nat.le_refl _) _))
  cases h : okPg p with
  | false =>
    have HU := Lib.hid (unkR_no h)
    have HH := Lib.hid h
    clear h
    go_enter Try.func12, Try.ntmps12
    go_wp2_with fail
    go_loopw [3, 4] (fun lv i wr => i = .int .i64 0 ∧ lv = .slice (some ⟨w.heap.size + 1, 0, none⟩) 0 0 ∧ Hid (OwnStrs w wr (.slice (some ⟨w.heap.size + 1, 0, none⟩) 0 0) []) ∧ Hid (BoxB wr w.heap.size [.slice gA p.globals.length gc, .slice lA p.locks.length lc, .slice pA p.procs.length pc])) (fun _ i _ => 1 - (intOf i).toNat)
    case atStart => exact ⟨rfl, rfl, OE, BE⟩
    case round =>
      obtain ⟨rfl, rfl, HO, HB⟩ := hrel
      have p0 := HB.out 0 _ rfl
      have p1 := HB.out 1 _ rfl
      have p2 := HB.out 2 _ rfl
      go_wp2_with fail
      refine (spec_ProgOk p ⟨gA, gc, lA, lc, pA, pc⟩ _ (HP.out.belowA HO.out.2) htot).mono ?_
      rintro e w1 ⟨rfl, b1⟩
      have O1 := Lib.hid (HO.out.below b1)
      rw [HH.out]
      clear b1
      go_wp2_with fail
      go_ret
      exact ⟨_, rfl, by rw [HU.out]; exact O1.out⟩
  | true =>
    have HU := Lib.hid (unkR_yes h)
    have HH := Lib.hid h
    have hpn := (okPg_procs h).1
    clear h
    go_enter Try.func12, Try.ntmps12
    go_wp2_with fail
    go_loopw [3, 4] (fun lv i wr => ∃ k : Nat, k ≤ p.procs.length ∧ i = .int .i64 k ∧ ∃ A' c', lv = .slice A' (unkP p.globals p.locks (pnames p.procs) (p.procs.take k)).length c' ∧ Hid (OwnStrs w wr (.slice A' (unkP p.globals p.locks (pnames p.procs) (p.procs.take k)).length c') (unkP p.globals p.locks (pnames p.procs) (p.procs.take k))) ∧ Hid (BoxB wr w.heap.size [.slice gA p.globals.length gc, .slice lA p.locks.length lc, .slice pA p.procs.length pc]) ∧ Hid (Sane 9 wr w.heap.size)) (fun _ i _ => p.procs.length - (intOf i).toNat)
    case atStart => exact ⟨0, Nat.zero_le _, rfl, _, _, rfl, OE, BE, SE⟩
    case round =>
      obtain ⟨k, hk, rfl, A', c', rfl, HO, HB, HS⟩ := hrel
      have p0 := HB.out 0 _ rfl
      have p1 := HB.out 1 _ rfl
      have p2 := HB.out 2 _ rfl
      have hul := unkP_len p.globals p.locks (pnames p.procs) p.procs k
      have htl := totPrs_take_le p.procs k
      have htp : totPrs p.procs ≤ 1048576 := by have : totPg p = totS p.globals + totS p.locks + totPrs p.procs := rfl; omega
      by_cases hlt : k < p.procs.length
      · obtain ⟨b, off, y, rfl, d0, d1, hnm, hym, _, hbc, hcm, row⟩ := rd_proc HP.out.p3 hlt
        rw [hym] at d1
        have D1 := Lib.hid d1
        have ROW := Lib.hid row
        have hlb := cell_lt d0
        have hqt := okPr_quiet HH.out hlt
        have QT := Lib.hid hqt
        have htb := tot_body hlt htot
        have HT := Lib.hid (unkP_take p.globals p.locks (pnames p.procs) p.procs k hlt)
        have h0k : (0 : Int) ≤ (k : Int) := by omega
        clear hnm hym row d0 d1 hqt
        go_wp2_with fail
        refine (spec_ProgOk p ⟨gA, gc, lA, lc, (some ⟨b, off, none⟩), pc⟩ _ (HP.out.belowA HO.out.2) htot).mono ?_
        rintro e w1 ⟨rfl, b1⟩
        have O1 := Lib.hid (HO.out.below b1)
        have X1 := Lib.hid (HB.out.below b1)
        have S1 := Lib.hid (sane_below HS.out (cell_lt p0) b1)
        have d1 := cell_keep O1.out.2 D1.out
        rw [HH.out]
        clear b1 p0 p1 p2
        have p0 := X1.out 0 _ rfl
        have p1 := X1.out 1 _ rfl
        have p2 := X1.out 2 _ rfl
        have hwl := cell_lt p0
        have D3 := Lib.hid d1
        go_wp2_with fail
        go_region_held3 (fun w' => w'.cell? ⟨w.heap.size, 0, none⟩ = some (.slice gA p.globals.length gc) ∧ w'.cell? ⟨w.heap.size, 1, none⟩ = some (.slice lA p.locks.length lc) ∧ w'.cell? ⟨w.heap.size, 2, none⟩ = some (.slice (some ⟨b, off, none⟩) p.procs.length pc) ∧ w'.cell? ⟨b, off + k * 2 + 1, none⟩ = some (.slice y.A p.procs[k].body.length y.c))
          (first | go_keep | exact ⟨kp2.cellT S1.out (X1.out 0 _ rfl), kp2.cellT S1.out (X1.out 1 _ rfl), kp2.cellT S1.out (X1.out 2 _ rfl), cell_keep own2.2 D1.out⟩)
          ((go_at_call 40; (refine (spec_l07Unknown p.procs[k].body p ⟨gA, gc, lA, lc, (some ⟨b, off, none⟩), pc⟩ y.A y.c w _ _ (unkP p.globals p.locks (pnames p.procs) (p.procs.take k)) HP.out ROW.out (by exact O1.out.below (Below.refl _ _).drew) hbc hcm QT.out (by omega) (by omega) htb).mono ?_); rintro e w2 ⟨v2, rfl, own2, kp2⟩))
        have O2 : Hid (OwnStrs w w2 v2 (unkP p.globals p.locks (pnames p.procs) (p.procs.take (k + 1)))) := Lib.hid (by rw [HT.out]; exact own2)
        have kq2 := KeepT.trans' (KeepT.of_below' (Below.refl _ _).drew) kp2
        have X2 := Lib.hid (X1.out.keepS kq2 S1.out)
        have S2 := Lib.hid (sane_keep S1.out hwl kq2)
        obtain ⟨A2, c2, rfl, _⟩ := O2.out.slice
        clear own2 kp2 kq2 p0 p1 p2 d1
        go_wp2_with fail
        go_roundw
        case rel => exact ⟨k + 1, by omega, by go_num, A2, c2, rfl, O2, X2, S2⟩
        case measure => simp [intOf]; omega
      · have TK : Hid (p.procs.take k = p.procs) := Lib.hid (List.take_of_length_le (by omega))
        go_wp2_with fail
        refine (spec_ProgOk p ⟨gA, gc, lA, lc, pA, pc⟩ _ (HP.out.belowA HO.out.2) htot).mono ?_
        rintro e w1 ⟨rfl, b1⟩
        have O1 := Lib.hid (HO.out.below b1)
        have X1 := Lib.hid (HB.out.below b1)
        rw [HH.out]
        clear b1 p0 p1 p2
        have p0 := X1.out 0 _ rfl
        have p1 := X1.out 1 _ rfl
        have p2 := X1.out 2 _ rfl
        go_wp2_with fail
        go_ret
        have := O1.out
        rw [TK.out] at this ⊢
        exact ⟨_, rfl, by rw [HU.out]; exact this⟩
end Go.Proofs.Ytadcebdhgocmhaa
