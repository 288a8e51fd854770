/- The program's unknownOf, UnknownIn, hasTwice and ProgFault; the reference's UnknownIn, l07Twice and ProgFault. -/
import Derived.Test.YtkipkincggajcaaUnkStep
import Derived.Laws.EntriesVeiled
namespace Go.Proofs.Ytkipkincggajcaa
open Go.RowKit
set_option linter.unusedVariables false

def unkF (p : Pg) (acc : List ByteArray) (g : St) : List ByteArray × Bool := (headG p.globals p.locks (pnames p.procs) acc g, true)
mutual
theorem unk_visT (p : Pg) (acc : List ByteArray) : (g : St) → visT (unkF p) acc g = (unkG p.globals p.locks (pnames p.procs) acc g, true)
  | .mk k s t b e => by
    rw [visT, unkF]
    simp only [headG]
    rw [unk_visTs p _ b]
    simp only
    rw [unk_visTs p _ e, unkG_mk]
theorem unk_visTs (p : Pg) (acc : List ByteArray) : (l : List St) → visTs (unkF p) acc l = (unkGs p.globals p.locks (pnames p.procs) acc l, true)
  | [] => by rw [visTs, unkGs]
  | g :: r => by
    rw [visTs, unk_visT p acc g]
    simp only
    rw [unk_visTs p _ r, unkGs]
end
/-- the closure that gathers the names that are not there -/
def unkU (W1 : World) (p : Pg) (go gk gp gq : Nat) : Uses (List ByteArray) where
  k := 172
  caps := #[.pointer (some ⟨gk, 0, none⟩), .pointer (some ⟨gp, 0, none⟩), .pointer (some ⟨gq, 0, none⟩)]
  f := unkF p
  I := fun acc w => (∃ v, OutAt W1.heap.size go w v acc) ∧ Keep (fun i => i ≠ go) W1 w
  K := fun _ w i => i ≠ go ∧ (i < W1.heap.size ∨ Sane 9 w i)
  Bd := fun acc n => acc.length + 128 * n ≤ 10000000
theorem unkU_f (W1 : World) (p : Pg) (go gk gp gq : Nat) : (unkU W1 p go gk gp gq).f = unkF p := rfl
theorem unkU_ok (W0 W1 : World) (p : Pg) (x : V3) (go gk gp gq : Nat) (qv : Value) (base : Nat) (E : UnkEnv W0 W1 p x go gk gp gq qv base) : (unkU W1 p go gk gp gq).Ok where
  step := by
    rintro acc m x g w hbd ⟨⟨v, ho⟩, hk⟩ hs
    have hbd' : acc.length + 128 * (m + 1) ≤ 10000000 := hbd
    refine (unk_step W0 W1 p _ go gk gp gq qv base E acc x g w v (by omega) ho hk hs).mono ?_
    rintro e w' ⟨he, v', ho', hg⟩
    have hK : ∀ i, (i ≠ go ∧ (i < W1.heap.size ∨ Sane 9 w i)) → i ≠ go ∧ v.ownBlock ≠ some i := fun i hi => ⟨hi.1, fun e => by
      rcases hi.2 with h | h
      · have := (ho.own.lt i e).1; omega
      · exact ho.own.ne h e⟩
    have hk' : Keep (fun i => i ≠ go ∧ (i < W1.heap.size ∨ Sane 9 w i)) w w' := hg.keep.mono fun i _ hi => hK i hi
    refine ⟨he, ⟨⟨v', ho'⟩, hk.trans hk' fun i hi h => ⟨h, .inl hi⟩⟩, hk', fun i hi h => ⟨h.1, ?_⟩, ?_⟩
    · rcases h.2 with h2 | h2
      · exact .inl h2
      · exact .inr fun cur e => h2 cur ((hk'.block i hi h).symm.trans e)
    have := headG_len p.globals p.locks (pnames p.procs) acc g
    show (headG p.globals p.locks (pnames p.procs) acc g).length + 128 * m ≤ 10000000
    omega
  enter := fun args w => by kernel_rfl
  new := by
    rintro acc w cs ⟨⟨v, ho⟩, hk⟩
    refine ⟨⟨⟨v, ho.alloc _⟩, hk.alloc _⟩, ⟨?_, .inr (sane_new (by decide))⟩, fun i hi hK => ⟨hK.1, hK.2.elim .inl fun h => .inr fun cur e => h cur ((heap_alloc_lt hi).symm.trans e)⟩⟩
    have := lt_of_block ho.at'; omega
  less := fun st m n h k => by
    have k' : st.length + 128 * n ≤ 10000000 := k
    show st.length + 128 * m ≤ 10000000
    omega
theorem OwnB.toStrs {base : Nat} {w0 w : World} {v : Value} {ss : List ByteArray} (h : OwnB base w v ss) (hb : Below w0.heap.size w0 w) (hle : w0.heap.size ≤ base) : OwnStrs w0 w v ss := by
  refine ⟨⟨h.1.1, ?_⟩, hb⟩
  rcases h.1.2 with h' | ⟨g, cap, cur, e, hg, r⟩
  · exact .inl h'
  · exact .inr ⟨g, cap, cur, e, Nat.le_trans hle hg, r⟩
theorem fit_bound {p : Pg} (h : okPg p = true) {k : Nat} (hk : k < p.procs.length) : snodess p.procs[k].body ≤ 60 := by
  have := List.all_eq_true.1 (okPg_procs h).2 _ (List.getElem_mem hk)
  unfold okPr at this
  rw [Bool.and_eq_true] at this
  exact (fit_inv this.2).2
set_option maxHeartbeats 1600000 in
set_option maxRecDepth 100000 in
theorem impl_unknownOf (p : Pg) (x : V3) (w : World) (hp : PgIs w x p) (hok : okPg p = true) :
    Calls Try.prog 116 #[x.val p] w fun e w' => ∃ v', e = .returned v' ∧ OwnStrs w w' v' (unkP p.globals p.locks (pnames p.procs) p.procs) := by
  have HP := Lib.hid hp
  have OK := Lib.hid hok
  have hpn := (okPg_procs hok).1
  have hpl := hp.p1
  have hpc := hp.p2
  unfold maxLen at hpc
  obtain ⟨gA, gc, lA, lc, pA, pc⟩ := x
  unfold V3.val
  simp only at hpl hpc ⊢
  clear hp hok
  go_enter Try.func116, Try.ntmps116
  go_wp2_with fail
  refine (impl_procNames p ⟨gA, gc, lA, lc, pA, pc⟩ _ (HP.out.belowA (by repeat' (first | exact Below.refl _ _ | exact Nat.le_refl _ | (refine Below.alloc ?_ ?_ _) | (refine Below.setCell ?_ ?_ _) | (refine Below.drew ?_) | (refine below_drewN ?_ _) | assumption | (simp; done) | (simp; omega)))) (by omega)).mono ?_
  rintro e w1 ⟨A1, c1, rfl, own1⟩
  have O1 := Lib.hid own1
  have b1 := own1.2
  have H1 : Hid (Below w.heap.size w w1) := Lib.hid (Below.trans (by repeat' (first | exact Below.refl _ _ | exact Nat.le_refl _ | (refine Below.alloc ?_ ?_ _) | (refine Below.setCell ?_ ?_ _) | (refine Below.drew ?_) | (refine below_drewN ?_ _) | assumption | (simp; done) | (simp; omega))) (b1.mono (by simp; omega)))
  have hz1 : w.heap.size + 1 < w1.heap.size := by have := b1.size; simp at this; omega
  have BX : Hid (BoxB w1 w.heap.size [.slice gA p.globals.length gc, .slice lA p.locks.length lc, .slice pA p.procs.length pc]) := Lib.hid (BoxB.below (BoxB.below (BoxB.lit rfl) (Below.alloc (Below.refl _ _) (Nat.le_refl _) (.cells #[.slice none 0 0] 44))) b1)
  have GO : Hid (w1.heap[w.heap.size + 1]? = some (.cells #[.slice none 0 0] 44 (0, 0))) := Lib.hid (by
    have := heap_alloc_new (w.alloc (.cells #[.slice gA p.globals.length gc, .slice lA p.locks.length lc, .slice pA p.procs.length pc] 58)) (.cells #[.slice none 0 0] 44)
    rw [show (w.alloc (.cells #[.slice gA p.globals.length gc, .slice lA p.locks.length lc, .slice pA p.procs.length pc] 58)).heap.size = w.heap.size + 1 from by simp] at this
    exact (b1.block _ (by simp)).trans this)
  have p0 := BX.out 0 _ rfl
  have p1 := BX.out 1 _ rfl
  have p2 := BX.out 2 _ rfl
  have hz0 : w.heap.size < w1.heap.size := by omega
  clear own1 b1
  go_wp2_with fail
  generalize hW : (w1.alloc (.cells #[.slice A1 (pnames p.procs).length c1] 44)).alloc (.cells #[.func (.func 171) #[] #[.pointer (some ⟨w.heap.size + 1, 0, none⟩)]] 168) = W1
  have b11 : Below w1.heap.size w1 W1 := by rw [← hW]; exact Below.alloc (Below.alloc (Below.refl _ _) (Nat.le_refl _) _) (by simp) _
  have hz3 : W1.heap.size = w1.heap.size + 2 := by rw [← hW]; simp
  have E : Hid (UnkEnv w W1 p ⟨gA, gc, lA, lc, pA, pc⟩ (w.heap.size + 1) (w1.heap.size + 1) w.heap.size w1.heap.size (.slice A1 (pnames p.procs).length c1) ((w.alloc (.cells #[.slice gA p.globals.length gc, .slice lA p.locks.length lc, .slice pA p.procs.length pc] 58)).alloc (.cells #[.slice none 0 0] 44)).heap.size) := Lib.hid {
    hp := HP.out
    b01 := H1.out.trans (b11.mono H1.out.size)
    go0 := by omega
    gk1 := by
      rw [← hW]
      have := World.cell?_alloc_new (w1.alloc (.cells #[.slice A1 (pnames p.procs).length c1] 44)) #[.func (.func 171) #[] #[.pointer (some ⟨w.heap.size + 1, 0, none⟩)]] 168 0
      rw [show (w1.alloc (.cells #[.slice A1 (pnames p.procs).length c1] 44)).heap.size = w1.heap.size + 1 from by simp] at this
      exact this
    gp1 := BX.out.below b11
    gq1 := by
      rw [← hW]
      refine cell_keep (Below.alloc (Below.refl _ _) (Nat.le_refl _) _) ?_
      rw [World.cell?_alloc_new]; rfl
    q := by rw [← hW]; exact ((OwnB.of_strs O1.out).alloc _).alloc _
    so := sane_below (sane_of GO.out (by decide)) (by omega) b11
    nk := by omega
    np := by omega
    nq := by omega }
  have OO : Hid (OutAt W1.heap.size (w.heap.size + 1) W1 (.slice none 0 0) []) := Lib.hid ⟨(b11.block _ (by omega)).trans GO.out, ⟨World.ownsRow_nil _ _ _ _, Nat.le_refl _⟩⟩
  clear hW b11 p0 p1 p2 BX GO O1
  go_loopw [14] (fun i wr => ∃ k : Nat, k ≤ p.procs.length ∧ i = .int .i64 k ∧ Hid ((∃ v, OutAt W1.heap.size (w.heap.size + 1) wr v (unkP p.globals p.locks (pnames p.procs) (p.procs.take k))) ∧ Keep (fun i => i ≠ w.heap.size + 1) W1 wr ∧ (unkP p.globals p.locks (pnames p.procs) (p.procs.take k)).length + 128 * (60 * (8 - k)) ≤ 10000000)) (fun i _ => p.procs.length - (intOf i).toNat)
  case atStart => exact ⟨0, Nat.zero_le _, rfl, Lib.hid ⟨⟨_, OO.out⟩, Keep.refl _ _, by simp [unkP]⟩⟩
  case round =>
    obtain ⟨k, hk, rfl, HR⟩ := hrel
    obtain ⟨⟨v, ho⟩, hkp, hbd⟩ := HR.out
    have HO := Lib.hid ho
    have HK := Lib.hid hkp
    have BW := Lib.hid (E.out.b01.trans (hkp.below E.out.b01.size (fun b hb => by omega)))
    by_cases hlt : k < p.procs.length
    · obtain ⟨b, off, y, rfl, d0, d1, hnm, hym, _, hbc, hcm, row⟩ := rd_proc HP.out.p3 hlt
      replace d0 := cell_keep BW.out d0
      replace d1 := cell_keep BW.out d1
      rw [hym] at d1
      have ROW := Lib.hid row
      have hlb := cell_lt d0
      have hsn := fit_bound OK.out hlt
      have HT := Lib.hid (unkP_take p.globals p.locks (pnames p.procs) p.procs k hlt)
      have h0k : (0 : Int) ≤ (k : Int) := by omega
      have hzr := HK.out.size
      clear hnm hym row ho hkp HR
      go_wp2_with fail
      refine (impl_visitStmts (unkU W1 p (w.heap.size + 1) (w1.heap.size + 1) w.heap.size w1.heap.size) (unkU_ok w W1 p _ _ _ _ _ _ _ E.out) p.procs[k].body (unkP p.globals p.locks (pnames p.procs) (p.procs.take k)) (60 * (8 - (k + 1))) y.A y.c _ ?_ ⟨⟨_, HO.out.alloc _⟩, HK.out.alloc _⟩ ?_ hbc hcm).mono ?_
      · show (unkP p.globals p.locks (pnames p.procs) (p.procs.take k)).length + 128 * (60 * (8 - (k + 1)) + snodess p.procs[k].body) ≤ 10000000
        omega
      · exact ROW.out.keep (fun q hq _ => (Below.trans BW.out ((Below.alloc (Below.refl _ _) (Nat.le_refl _) _).mono BW.out.size)).cell hq) (fun i hi _ => ⟨by omega, .inl (by omega)⟩)
      rintro e w5 ⟨rfl, ⟨⟨v5, o5⟩, k5⟩, _, _, bd5⟩
      rw [unkU_f, unk_visTs] at o5 bd5
      simp only at o5
      rw [← HT.out] at o5 bd5
      have R5 : Hid ((∃ v, OutAt W1.heap.size (w.heap.size + 1) w5 v (unkP p.globals p.locks (pnames p.procs) (p.procs.take (k + 1)))) ∧ Keep (fun i => i ≠ w.heap.size + 1) W1 w5 ∧ (unkP p.globals p.locks (pnames p.procs) (p.procs.take (k + 1))).length + 128 * (60 * (8 - (k + 1))) ≤ 10000000) := Lib.hid ⟨⟨v5, o5⟩, k5, bd5⟩
      clear o5 k5 bd5
      go_wp2_with fail
      go_roundw
      case rel => exact ⟨k + 1, by omega, by go_num, R5⟩
      case measure => simp [intOf]; omega
    · have TK : Hid (p.procs.take k = p.procs) := Lib.hid (List.take_of_length_le (by omega))
      have c1 := cell_of_one ho.at'
      obtain ⟨A7, c7, rfl, _⟩ := ho.own.strs.slice
      clear ho hkp HR
      go_wp2_with fail
      go_ret
      have := HO.out.own
      rw [TK.out] at this ⊢
      exact ⟨_, rfl, this.toStrs BW.out (by have := E.out.b01.size; omega)⟩
end Go.Proofs.Ytkipkincggajcaa
