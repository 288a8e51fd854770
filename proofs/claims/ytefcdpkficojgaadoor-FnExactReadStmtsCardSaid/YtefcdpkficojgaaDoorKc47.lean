/- Several texts in one: RdNodes, RdSN, RsSTop. -/
import Derived.Test.YtefcdpkficojgaaDoorKc21
import Derived.Test.YtefcdpkficojgaaDoorKc27
import Derived.Test.YtefcdpkficojgaaDoorKc38
import Derived.Test.YtefcdpkficojgaaDoorKc46
namespace Go.Proofs.YtefcdpkficojgaaDoor
open Go.RowKit
set_option linter.unusedVariables false


theorem rdT_nodes (L : List Sg) (n r : Nat) : ∀ i t q, rdT L n r i = .ok t q → i + nodes t ≤ q := by
  have leaf : ∀ i t q g, (∀ t q, g = .ok t q → i + nodes t ≤ q) → leafT L n i g = .ok t q → i + nodes t ≤ q := by
    intro i t q g hg h
    unfold leafT at h
    split at h
    · injection h with h1 h2
      subst h1 h2
      simp [nodes, nodess]
    · split at h
      · injection h with h1 h2
        subst h1 h2
        simp [nodes, nodess]
      · split at h
        · exact hg _ _ h
        · cases h
  induction r with
  | zero => intro i t q h; rw [rdT] at h; exact leaf i t q _ (fun _ _ h => by cases h) h
  | succ r ih =>
    intro i t q h
    rw [rdT] at h
    refine leaf i t q _ ?_ h
    intro t q h
    unfold innT at h
    split at h
    · split at h
      · cases h
      · next x q1 h1 =>
        have h3 := ih _ _ _ h1
        obtain ⟨e1, e2, _⟩ := closeT_ok h
        subst e1 e2
        simp only [nodes, nodess]
        omega
    · split at h
      · cases h
      · next a q1 h1 =>
        have h3 := ih _ _ _ h1
        split at h
        · cases h
        · split at h
          · cases h
          · next b q2 h2 =>
            have h4 := ih _ _ _ h2
            obtain ⟨e1, e2, _⟩ := closeT_ok h
            subst e1 e2
            simp only [nodes, nodess]
            omega

/-- nothing may be left behind the statements -/
def endS (L : List Sg) (n : Nat) (g : Got (List St × Nat)) : Got (List St) := g.bind fun b q => if q < L.length then .bad 3 (posAt L n q) else .ok b.1 q
theorem endS_chk (L : List Sg) (n : Nat) (g : Got (List St × Nat)) : endS L n (chkG L n g) = endS L n g := by
  unfold endS chkG
  cases g with
  | bad c p => rfl
  | ok b q =>
    rw [bind_ok, bind_ok]
    split
    · next h => rw [if_pos h.1]; rfl
    · rfl
/-- a text's statements, and its fault -/
def readS (s : ByteArray) : List St × Int × Int :=
  if (lexR s).2.1 = 0 then
    match endS (lexR s).1 s.size (rdS (lexR s).1 s.size 6 0 60) with
    | .bad c p => ([], c, (p : Int))
    | .ok l q => (l, 0, 0)
  else ([], (lexR s).2.1, (lexR s).2.2)
theorem readS_lex {s : ByteArray} (h : ¬ (lexR s).2.1 = 0) : readS s = ([], (lexR s).2.1, (lexR s).2.2) := by unfold readS; rw [if_neg h]
theorem blkG_marks {L : List Sg} {n : Nat} {rec : Nat → Nat → Got (List St × Nat)} {i left q : Nat} {b : List St × Nat} (hr : ∀ j l b q, rec j l = .ok b q → smarkss b.1 + 5 * j ≤ 5 * q) (h : blkG L n rec i left = .ok b q) : smarkss b.1 + 5 * (i + 2) ≤ 5 * q := by
  unfold blkG at h
  obtain ⟨_, i1, h1, h⟩ := bind_ok_inv h
  obtain ⟨_, rfl⟩ := tk_inv h1
  obtain ⟨b', i2, h2, h⟩ := bind_ok_inv h
  have := hr _ _ _ _ h2
  obtain ⟨_, i3, h3, h⟩ := bind_ok_inv h
  obtain ⟨_, rfl⟩ := tk_inv h3
  injection h with e h
  subst e
  omega
theorem kids_le (t : Tm) : nodess t.kids + 1 = nodes t := by
  obtain ⟨_, _, _, kids⟩ := t
  rw [nodes]; show nodess kids + 1 = 1 + nodess kids; omega
theorem oneG_marks {L : List Sg} {n : Nat} {rec : Nat → Nat → Got (List St × Nat)} {k : Int} {i left q : Nat} {b : St × Nat} (hr : ∀ j l b q, rec j l = .ok b q → smarkss b.1 + 5 * j ≤ 5 * q) (h : oneG L n rec k i left = .ok b q) : smarks b.1 + 5 * i ≤ 5 * q := by
  unfold oneG at h
  split at h
  · unfold nesG at h
    obtain ⟨t, i1, h1, h⟩ := bind_ok_inv h
    have hn := rdT_nodes _ _ _ _ _ _ h1
    have hk := kids_le t
    obtain ⟨b1, i2, h2, h⟩ := bind_ok_inv h
    have := blkG_marks hr h2
    split at h
    · injection h with e h
      subst e
      rw [smarks, smarkss]; omega
    · obtain ⟨e, i3, h3, h⟩ := bind_ok_inv h
      unfold elsG at h3
      split at h3
      · cases h3
      · have := blkG_marks hr h3
        injection h with e h
        subst e
        rw [smarks]; omega
  split at h
  · obtain ⟨_, i1, h1, h⟩ := bind_ok_inv h
    obtain ⟨_, rfl⟩ := tk_inv h1
    obtain ⟨t, i2, h2, h⟩ := bind_ok_inv h
    have hn := rdT_nodes _ _ _ _ _ _ h2
    have hk := kids_le t
    obtain ⟨_, i3, h3, h⟩ := bind_ok_inv h
    obtain ⟨_, rfl⟩ := tk_inv h3
    injection h with e h
    subst e
    rw [smarks, smarkss]
    omega
  split at h
  · obtain ⟨_, i1, h1, h⟩ := bind_ok_inv h
    obtain ⟨_, rfl⟩ := tk_inv h1
    injection h with e h
    subst e
    rw [smarks, smarkss]
    show 5 + 3 * nodess [] + 0 + 0 + 5 * i ≤ 5 * q
    rw [nodess]; omega
  split at h
  · obtain ⟨_, i1, h1, h⟩ := bind_ok_inv h
    obtain ⟨_, rfl⟩ := tk_inv h1
    injection h with e h
    subst e
    rw [smarks, smarkss]
    show 5 + 3 * nodess [] + 0 + 0 + 5 * i ≤ 5 * q
    rw [nodess]; omega
  · cases h
theorem rdSs_marks (L : List Sg) (n f : Nat) : ∀ room i left b q, rdSs L n f room i left = .ok b q → smarkss b.1 + 5 * i ≤ 5 * q := by
  induction f with
  | zero => intro room i left b q h; rw [rdSs] at h; injection h with e h; subst e; rw [smarkss]; omega
  | succ f ih =>
    intro room i left b q h
    rw [rdSs, stepG] at h
    split at h
    · injection h with e h; subst e; rw [smarkss]; omega
    split at h
    · cases h
    split at h
    · cases h
    obtain ⟨g, q1, h1, h⟩ := bind_ok_inv h
    have := oneG_marks (fun j l b q h => ih _ j l b q h) h1
    obtain ⟨r, q2, h2, h⟩ := bind_ok_inv h
    have := ih _ _ _ _ _ h2
    injection h with e h
    subst e
    rw [smarkss]
    omega
/-- a reader never goes far beyond the last sign -/
theorem blkG_top {L : List Sg} {n : Nat} {rec : Nat → Nat → Got (List St × Nat)} {i left q : Nat} {b : List St × Nat} (h : blkG L n rec i left = .ok b q) : q ≤ L.length := by
  unfold blkG at h
  obtain ⟨_, i1, h1, h⟩ := bind_ok_inv h
  obtain ⟨b', i2, h2, h⟩ := bind_ok_inv h
  obtain ⟨_, i3, h3, h⟩ := bind_ok_inv h
  obtain ⟨h4, rfl⟩ := tk_inv h3
  injection h with e h
  subst h
  rcases Nat.lt_or_ge i2 L.length with h5 | h5
  · omega
  · rw [tx_ge (by omega)] at h4; exact absurd h4 (by decide)
theorem tk_top {L : List Sg} {n i j : Nat} {s : ByteArray} {u : Unit} (hs : s ≠ ⟨#[]⟩) (h : tk L n s i = .ok u j) : j ≤ L.length := by
  obtain ⟨h4, rfl⟩ := tk_inv h
  rcases Nat.lt_or_ge i L.length with h5 | h5
  · omega
  · rw [tx_ge (by omega)] at h4; exact absurd h4.symm hs
theorem oneG_top {L : List Sg} {n : Nat} {rec : Nat → Nat → Got (List St × Nat)} {k : Int} {i left q : Nat} {b : St × Nat} (h : oneG L n rec k i left = .ok b q) : q ≤ L.length := by
  unfold oneG at h
  split at h
  · unfold nesG at h
    obtain ⟨t, i1, h1, h⟩ := bind_ok_inv h
    obtain ⟨b1, i2, h2, h⟩ := bind_ok_inv h
    have := blkG_top h2
    split at h
    · injection h with e h
      omega
    · obtain ⟨e, i3, h3, h⟩ := bind_ok_inv h
      unfold elsG at h3
      split at h3
      · cases h3
      · have := blkG_top h3
        injection h with e h
        omega
  split at h
  · obtain ⟨_, i1, h1, h⟩ := bind_ok_inv h
    obtain ⟨t, i2, h2, h⟩ := bind_ok_inv h
    obtain ⟨_, i3, h3, h⟩ := bind_ok_inv h
    have := tk_top (by decide) h3
    injection h with e h
    omega
  split at h
  · obtain ⟨_, i1, h1, h⟩ := bind_ok_inv h
    have := tk_top (by decide) h1
    injection h with e h
    omega
  split at h
  · obtain ⟨_, i1, h1, h⟩ := bind_ok_inv h
    have := tk_top (by decide) h1
    injection h with e h
    omega
  · cases h
theorem rdSs_top (L : List Sg) (n f : Nat) : ∀ room i left b q, i ≤ L.length → rdSs L n f room i left = .ok b q → q ≤ L.length := by
  induction f with
  | zero => intro room i left b q hi h; rw [rdSs] at h; injection h with e h; omega
  | succ f ih =>
    intro room i left b q hi h
    rw [rdSs, stepG] at h
    split at h
    · injection h with e h; omega
    split at h
    · cases h
    split at h
    · cases h
    obtain ⟨g, q1, h1, h⟩ := bind_ok_inv h
    have := oneG_top h1
    obtain ⟨r, q2, h2, h⟩ := bind_ok_inv h
    have := ih _ _ _ _ _ this h2
    injection h with e h
    omega
theorem readS_marks (s : ByteArray) : smarkss (readS s).1 ≤ 30000 := by
  unfold readS
  split
  · next hf =>
    have hl := (lexR_ok hf).2.2
    split
    · rw [smarkss]; omega
    · next l q h =>
      unfold endS at h
      obtain ⟨b, q1, h1, h⟩ := bind_ok_inv h
      have h2 := rdSs_marks _ _ _ _ _ _ _ _ h1
      have h3 := rdSs_top _ _ _ _ _ _ _ _ (Nat.zero_le _) h1
      split at h
      · cases h
      · injection h with e h
        subst e
        simp only
        omega
  · simp only; rw [smarkss]; omega

theorem two_cellsR {w : World} {g : Nat} {a b : Value} {T : TypeId} (h : w.heap[g]? = some (.cells #[a, b] T (0, 0))) (x y : Value) : ((w.setCell ⟨g, 0, none⟩ x).setCell ⟨g, 1, none⟩ y).heap[g]? = some (.cells #[x, y] T (0, 0)) := by
  simp [World.setCell, Array.getElem?_modify, h]
theorem dr_ab {w : World} {g : Nat} {a b : Value} {T : TypeId} (h : w.heap[g]? = some (.cells #[a, b] T (0, 0))) (o : Obj) (x y : Value) : ((((w.alloc o).setCell ⟨g, 0, none⟩ x).setCell ⟨g, 1, none⟩ y).drew).heap[g]? = some (.cells #[x, y] T (0, 0)) := two_cellsR ((heap_alloc_lt (lt_of_block h)).trans h) x y
theorem dr_ba {w : World} {g : Nat} {a b : Value} {T : TypeId} (h : w.heap[g]? = some (.cells #[a, b] T (0, 0))) (o : Obj) (x y : Value) : ((((w.setCell ⟨g, 0, none⟩ x).setCell ⟨g, 1, none⟩ y).alloc o).drew).heap[g]? = some (.cells #[x, y] T (0, 0)) := (heap_alloc_lt (by have := lt_of_block h; simpa using this)).trans (two_cellsR h x y)
set_option maxHeartbeats 3200000 in
set_option maxRecDepth 100000 in
theorem spec_ReadStmts (s : ByteArray) (W0 : World) (hs : s.size ≤ 1048576) :
    Calls Tryd.prog 31 #[.string s] W0 fun e w' => ∃ A c, e = .returned (.tuple #[.slice A (readS s).1.length c, .agg #[.int .i64 (readS s).2.1, .int .i64 (readS s).2.2]]) ∧ (readS s).1.length ≤ c ∧ c ≤ maxLen ∧ StRowO w' (Made W0 w') A (readS s).1 ∧ Below W0.heap.size W0 w' := by
  go_enter Tryd.func31, Tryd.ntmps31
  go_wp2_with fail
  have BA : Below W0.heap.size W0 (W0.alloc (.cells #[.int .i64 0, .int .i64 0] 26)) := (by repeat' (first | exact Below.refl _ _ | exact Nat.le_refl _ | (refine Below.alloc ?_ ?_ _) | (refine Below.setCell ?_ ?_ _) | (refine Below.drew ?_) | (refine below_drewN ?_ _) | assumption | (simp; done) | (simp; omega)))
  refine (spec_l06New s _).mono ?_
  rintro e w1 ⟨rb, A, c, rfl, hrb, b1, hcell, hrd, hoff, hlc⟩
  have BA2 := Lib.hid (BA.trans (b1.mono BA.size))
  have HG1 : Hid (w1.heap[W0.heap.size]? = some (.cells #[.int .i64 0, .int .i64 0] 26 (0, 0))) := Lib.hid ((b1.block _ (by simp)).trans (heap_alloc_new _ _))
  have hrb2 : W0.heap.size + 1 ≤ rb := by simpa using hrb
  have hlt1 := lt_of_block hcell
  obtain ⟨g1, hg1⟩ : ∃ g, W0.heap.size = g := ⟨_, rfl⟩
  have hg1' : W0.heap.size ≤ g1 := by omega
  have hn1 : ¬ g1 = rb := by omega
  have hn3 : ¬ rb = g1 := by omega
  have hrl : W0.heap.size ≤ rb := by omega
  rw [hg1] at HG1 ⊢
  have HGG : Hid (W0.heap.size = g1) := Lib.hid hg1
  have hgr : g1 < rb := by omega
  clear hg1 BA hrb hrb2
  obtain ⟨fpn, hfpn⟩ := lexR_pos s
  obtain ⟨L, hL⟩ : ∃ L, (lexR s).1 = L := ⟨_, rfl⟩
  have HL := Lib.hid hL
  have HS : Hid (SgsOk L) := Lib.hid (by rw [← hL]; exact sgs_ok s)
  have hl6 := lexR_len s
  rw [hL] at hcell hrd hlc hl6
  rw [hfpn] at hcell
  have R1 : Hid (RsAt w1 rb A c s.size 0 L (lexR s).2.1 fpn 60) := Lib.hid ⟨hcell, hrd, fun b o e => by have := hoff b o e; omega, by omega, hl6, hlc⟩
  have HOF : Hid (∀ b o, A = some ⟨b, o, none⟩ → b < w1.heap.size) := Lib.hid (fun b o e => by have := hoff b o e; omega)
  clear hcell hrd hoff hlc hL b1
  by_cases hf : (lexR s).2.1 = 0
  · obtain ⟨hs6, hf2, _⟩ := lexR_ok hf
    have hfz : fpn = 0 := by rw [hf2] at hfpn; omega
    subst hfz
    rw [hf] at R1
    have HF := Lib.hid hf
    clear hf hf2 hfpn
    have HX : Hid (readS s = match endS L s.size (rdS L s.size 6 0 60) with
      | .bad c p => ([], c, (p : Int))
      | .ok l q => (l, 0, 0)) := Lib.hid (by unfold readS; rw [if_pos HF.out, HL.out]; first | done | rfl)
    go_wp2_with fail
    have hcl := rs_stmts_all 6 (Nat.le_refl _) w1 rb A c s.size 0 L 60 HS.out HOF.out (by decide) R1.out
    refine hcl.mono ?_
    clear hcl
    rintro e w2 ⟨k2, A2, m2, c2, rfl, hret⟩
    have HG2 : Hid (w2.heap[g1]? = some (.cells #[.int .i64 0, .int .i64 0] 26 (0, 0))) := Lib.hid ((k2.block g1 (lt_of_block HG1.out) hn1).trans HG1.out)
    have B2 : Hid (Below W0.heap.size W0 w2) := Lib.hid (KeepR.base k2 BA2.out hrl)
    have S2 := k2.size
    clear k2 HG1
    generalize rdS L s.size 6 0 60 = g at *
    cases g with
    | bad fc fp =>
      obtain ⟨hfc, q, lf, r2⟩ := hret
      have F : Hid (readS s = ([], fc, (fp : Int))) := Lib.hid HX.out
      have R2 := Lib.hid r2
      have HFC := Lib.hid hfc
      have hfb : (fc != 0) = true := by rw [bne_iff_ne]; exact hfc
      clear hfc r2 HX
      go_wp2_with fail
      refine (rs_end_fault _ rb A c s.size q L fc fp lf R2.out HFC.out).mono ?_
      rintro e w4 ⟨rfl, b4⟩
      have R4 := Lib.hid (R2.out.below b4)
      have B4 : Hid (Below W0.heap.size W0 w4) := Lib.hid (B2.out.trans (b4.mono B2.out.size))
      have HG1 : Hid (w4.heap[g1]? = some (.cells #[.int .i64 0, .int .i64 0] 26 (0, 0))) := Lib.hid ((b4.block g1 (lt_of_block HG2.out)).trans HG2.out)
      clear b4 HG2
      have p3 := R4.out.cs.2.2.2.1
      have p4 := R4.out.cs.2.2.2.2.1
      have d0 := Lib.frozen_of_heap HG1.out 0
      have d1 := Lib.frozen_of_heap HG1.out 1
      have e0 : w4.cell? ⟨g1, 0, none⟩ = some (.int .i64 0) := by rw [Lib.cell_of_heap HG1.out]; rfl
      have e1 : w4.cell? ⟨g1, 1, none⟩ = some (.int .i64 0) := by rw [Lib.cell_of_heap HG1.out]; rfl
      have hz1 := lt_of_block HG1.out
      have hrb4 := cell_lt p3
      go_upto_region 5 with fail
      go_region
      all_goals
        go_wp2_with fail
        first
        | (obtain ⟨W, hW⟩ : ∃ W, ((((w4.alloc (.cells #[] 104)).setCell ⟨g1, 0, none⟩ (.int .i64 fc)).setCell ⟨g1, 1, none⟩ (.int .i64 (fp : Int))).drew) = W := ⟨_, rfl⟩
           have hts := dr_ab HG1.out (.cells #[] 104) (.int .i64 fc) (.int .i64 (fp : Int))
           have hbl : Below W0.heap.size W0 ((((w4.alloc (.cells #[] 104)).setCell ⟨g1, 0, none⟩ (.int .i64 fc)).setCell ⟨g1, 1, none⟩ (.int .i64 (fp : Int))).drew) := ((((B4.out.alloc B4.out.size _).setCell (p := ⟨g1, 0, none⟩) hg1' _).setCell (p := ⟨g1, 1, none⟩) hg1' _).drew)
           rw [hW] at hts hbl ⊢
           have y4 : W.cell? ⟨g1, 0, none⟩ = some (.int .i64 fc) := by rw [Lib.cell_of_heap hts]; rfl
           have y5 : W.cell? ⟨g1, 1, none⟩ = some (.int .i64 (fp : Int)) := by rw [Lib.cell_of_heap hts]; rfl
           clear d0 d1 e0 e1 p3 p4 hts hW
           refine bodyPost_ret (v := .tuple #[.slice (some ⟨w4.heap.size, 0, none⟩) 0 0, .agg #[.int .i64 fc, .int .i64 (fp : Int)]]) (by simp [results, Tryd.results31, go_sem, y4, y5]) rfl ?_
           rw [F.out]
           exact ⟨_, 0, rfl, Nat.le_refl _, Nat.zero_le _, stRowO_nilR, hbl⟩)
        | (obtain ⟨W, hW⟩ : ∃ W, ((((w4.setCell ⟨g1, 0, none⟩ (.int .i64 fc)).setCell ⟨g1, 1, none⟩ (.int .i64 (fp : Int))).alloc (.cells #[] 104)).drew) = W := ⟨_, rfl⟩
           have hts := dr_ba HG1.out (.cells #[] 104) (.int .i64 fc) (.int .i64 (fp : Int))
           have hbl : Below W0.heap.size W0 ((((w4.setCell ⟨g1, 0, none⟩ (.int .i64 fc)).setCell ⟨g1, 1, none⟩ (.int .i64 (fp : Int))).alloc (.cells #[] 104)).drew) := ((((B4.out.setCell (p := ⟨g1, 0, none⟩) hg1' _).setCell (p := ⟨g1, 1, none⟩) hg1' _).alloc (by have := B4.out.size; simpa using this) _).drew)
           rw [hW] at hts hbl ⊢
           have y4 : W.cell? ⟨g1, 0, none⟩ = some (.int .i64 fc) := by rw [Lib.cell_of_heap hts]; rfl
           have y5 : W.cell? ⟨g1, 1, none⟩ = some (.int .i64 (fp : Int)) := by rw [Lib.cell_of_heap hts]; rfl
           clear d0 d1 e0 e1 p3 p4 hts hW
           refine bodyPost_ret (v := .tuple #[.slice (some ⟨w4.heap.size, 0, none⟩) 0 0, .agg #[.int .i64 fc, .int .i64 (fp : Int)]]) (by simp [results, Tryd.results31, go_sem, y4, y5]) rfl ?_
           rw [F.out]
           exact ⟨_, 0, rfl, Nat.le_refl _, Nat.zero_le _, stRowO_nilR, hbl⟩)
    | ok b q =>
      obtain ⟨l, lf⟩ := b
      obtain ⟨hm, hl1, hl2, row, r2⟩ := hret
      simp only at hm hl1 row r2
      subst hm
      have R2 := Lib.hid r2
      have RW := Lib.hid row
      clear r2 row
      go_wp2_with fail
      refine (rs_end_at _ rb A c s.size q L 0 (lf : Int) R2.out).mono ?_
      rintro e w4 ⟨rfl, k4, hret⟩
      have B4 : Hid (Below W0.heap.size W0 w4) := Lib.hid (KeepR.base k4 B2.out hrl)
      have HG1 : Hid (w4.heap[g1]? = some (.cells #[.int .i64 0, .int .i64 0] 26 (0, 0))) := Lib.hid ((k4.block g1 (lt_of_block HG2.out) hn1).trans HG2.out)
      have RW4 := Lib.hid (RW.out.keep fun b hb => k4.block b hb.2 (by have := hb.1; omega))
      have S4 := k4.size
      clear k4 HG2 RW
      rcases hret with ⟨hq, r4⟩ | ⟨hq, r4⟩
      · have F : Hid (readS s = ([], 3, (posAt L s.size q : Int))) := Lib.hid (by rw [HX.out, endS, bind_ok, if_pos hq])
        have p3 := r4.cs.2.2.2.1
        have p4 := r4.cs.2.2.2.2.1
        obtain ⟨PP, hPP⟩ : ∃ PP, posAt L s.size q = PP := ⟨_, rfl⟩
        rw [hPP] at F p4
        clear r4 hq hPP HX
        have d0 := Lib.frozen_of_heap HG1.out 0
        have d1 := Lib.frozen_of_heap HG1.out 1
        have e0 : w4.cell? ⟨g1, 0, none⟩ = some (.int .i64 0) := by rw [Lib.cell_of_heap HG1.out]; rfl
        have e1 : w4.cell? ⟨g1, 1, none⟩ = some (.int .i64 0) := by rw [Lib.cell_of_heap HG1.out]; rfl
        have hz1 := lt_of_block HG1.out
        have hrb4 := cell_lt p3
        go_upto_region 5 with fail
        go_region
        all_goals
          go_wp2_with fail
          first
          | (obtain ⟨W, hW⟩ : ∃ W, ((((w4.alloc (.cells #[] 104)).setCell ⟨g1, 0, none⟩ (.int .i64 3)).setCell ⟨g1, 1, none⟩ (.int .i64 (PP : Int))).drew) = W := ⟨_, rfl⟩
             have hts := dr_ab HG1.out (.cells #[] 104) (.int .i64 3) (.int .i64 (PP : Int))
             have hbl : Below W0.heap.size W0 ((((w4.alloc (.cells #[] 104)).setCell ⟨g1, 0, none⟩ (.int .i64 3)).setCell ⟨g1, 1, none⟩ (.int .i64 (PP : Int))).drew) := ((((B4.out.alloc B4.out.size _).setCell (p := ⟨g1, 0, none⟩) hg1' _).setCell (p := ⟨g1, 1, none⟩) hg1' _).drew)
             rw [hW] at hts hbl ⊢
             have y4 : W.cell? ⟨g1, 0, none⟩ = some (.int .i64 3) := by rw [Lib.cell_of_heap hts]; rfl
             have y5 : W.cell? ⟨g1, 1, none⟩ = some (.int .i64 (PP : Int)) := by rw [Lib.cell_of_heap hts]; rfl
             clear d0 d1 e0 e1 p3 p4 hts hW
             refine bodyPost_ret (v := .tuple #[.slice (some ⟨w4.heap.size, 0, none⟩) 0 0, .agg #[.int .i64 3, .int .i64 (PP : Int)]]) (by simp [results, Tryd.results31, go_sem, y4, y5]) rfl ?_
             rw [F.out]
             exact ⟨_, 0, rfl, Nat.le_refl _, Nat.zero_le _, stRowO_nilR, hbl⟩)
          | (obtain ⟨W, hW⟩ : ∃ W, ((((w4.setCell ⟨g1, 0, none⟩ (.int .i64 3)).setCell ⟨g1, 1, none⟩ (.int .i64 (PP : Int))).alloc (.cells #[] 104)).drew) = W := ⟨_, rfl⟩
             have hts := dr_ba HG1.out (.cells #[] 104) (.int .i64 3) (.int .i64 (PP : Int))
             have hbl : Below W0.heap.size W0 ((((w4.setCell ⟨g1, 0, none⟩ (.int .i64 3)).setCell ⟨g1, 1, none⟩ (.int .i64 (PP : Int))).alloc (.cells #[] 104)).drew) := ((((B4.out.setCell (p := ⟨g1, 0, none⟩) hg1' _).setCell (p := ⟨g1, 1, none⟩) hg1' _).alloc (by have := B4.out.size; simpa using this) _).drew)
             rw [hW] at hts hbl ⊢
             have y4 : W.cell? ⟨g1, 0, none⟩ = some (.int .i64 3) := by rw [Lib.cell_of_heap hts]; rfl
             have y5 : W.cell? ⟨g1, 1, none⟩ = some (.int .i64 (PP : Int)) := by rw [Lib.cell_of_heap hts]; rfl
             clear d0 d1 e0 e1 p3 p4 hts hW
             refine bodyPost_ret (v := .tuple #[.slice (some ⟨w4.heap.size, 0, none⟩) 0 0, .agg #[.int .i64 3, .int .i64 (PP : Int)]]) (by simp [results, Tryd.results31, go_sem, y4, y5]) rfl ?_
             rw [F.out]
             exact ⟨_, 0, rfl, Nat.le_refl _, Nat.zero_le _, stRowO_nilR, hbl⟩)
      · have F : Hid (readS s = (l, 0, 0)) := Lib.hid (by rw [HX.out, endS, bind_ok, if_neg hq])
        have p3 := r4.cs.2.2.2.1
        clear r4 hq HX
        have d0 := Lib.frozen_of_heap HG1.out 0
        have d1 := Lib.frozen_of_heap HG1.out 1
        have e0 : w4.cell? ⟨g1, 0, none⟩ = some (.int .i64 0) := by rw [Lib.cell_of_heap HG1.out]; rfl
        have e1 : w4.cell? ⟨g1, 1, none⟩ = some (.int .i64 0) := by rw [Lib.cell_of_heap HG1.out]; rfl
        have hz1 := lt_of_block HG1.out
        go_wp2_with fail
        obtain ⟨W, hW⟩ : ∃ W, (w4.setCell ⟨g1, 0, none⟩ (.int .i64 0)).setCell ⟨g1, 1, none⟩ (.int .i64 0) = W := ⟨_, rfl⟩
        have hts : ((w4.setCell ⟨g1, 0, none⟩ (.int .i64 0)).setCell ⟨g1, 1, none⟩ (.int .i64 0)).heap[g1]? = some (.cells #[.int .i64 0, .int .i64 0] 26 (0, 0)) := two_cellsR HG1.out _ _
        have hbl : Below W0.heap.size W0 ((w4.setCell ⟨g1, 0, none⟩ (.int .i64 0)).setCell ⟨g1, 1, none⟩ (.int .i64 0)) := ((B4.out.setCell (p := ⟨g1, 0, none⟩) hg1' _).setCell (p := ⟨g1, 1, none⟩) hg1' _)
        have RWW : StRowO ((w4.setCell ⟨g1, 0, none⟩ (.int .i64 0)).setCell ⟨g1, 1, none⟩ (.int .i64 0)) (Made W0 ((w4.setCell ⟨g1, 0, none⟩ (.int .i64 0)).setCell ⟨g1, 1, none⟩ (.int .i64 0))) A2 l :=
          ((RW4.out.set (p := ⟨g1, 0, none⟩) (fun h => by have h1 : w1.heap.size ≤ g1 := h.1; omega) _).set (p := ⟨g1, 1, none⟩) (fun h => by have h1 : w1.heap.size ≤ g1 := h.1; omega) _).sub (fun b hb => ⟨by have := hb.1; omega, by have := hb.2; simp; omega⟩)
        rw [hW] at hts hbl RWW ⊢
        have y4 : W.cell? ⟨g1, 0, none⟩ = some (.int .i64 0) := by rw [Lib.cell_of_heap hts]; rfl
        have y5 : W.cell? ⟨g1, 1, none⟩ = some (.int .i64 0) := by rw [Lib.cell_of_heap hts]; rfl
        clear d0 d1 e0 e1 hts hW
        refine bodyPost_ret (v := .tuple #[.slice A2 l.length c2, .agg #[.int .i64 0, .int .i64 0]]) (by simp [results, Tryd.results31, go_sem, y4, y5]) rfl ?_
        rw [F.out]
        exact ⟨A2, c2, rfl, hl1, hl2, RWW, hbl⟩
  · have F := Lib.hid (readS_lex hf)
    have HF := Lib.hid hf
    have hfb : ((lexR s).2.1 != 0) = true := by rw [bne_iff_ne]; exact hf
    rw [hfpn] at F
    obtain ⟨fc, hfc⟩ : ∃ x, (lexR s).2.1 = x := ⟨_, rfl⟩
    rw [hfc] at F HF hfb R1
    clear hf hfc hfpn
    go_wp2_with fail
    refine (rs_stmts_fault 6 _ rb A c s.size 0 L fc fpn 60 R1.out HF.out).mono ?_
    rintro e w2 ⟨A2, c2, rfl, b2⟩
    have R2 := Lib.hid (R1.out.below b2)
    have B2 : Hid (Below W0.heap.size W0 w2) := Lib.hid (BA2.out.trans (b2.mono BA2.out.size))
    have HG2 : Hid (w2.heap[g1]? = some (.cells #[.int .i64 0, .int .i64 0] 26 (0, 0))) := Lib.hid ((b2.block g1 (lt_of_block HG1.out)).trans HG1.out)
    clear b2 HG1
    go_wp2_with fail
    refine (rs_end_fault _ rb A c s.size 0 L fc fpn 60 R2.out HF.out).mono ?_
    rintro e w4 ⟨rfl, b4⟩
    have R4 := Lib.hid (R2.out.below b4)
    have B4 : Hid (Below W0.heap.size W0 w4) := Lib.hid (B2.out.trans (b4.mono B2.out.size))
    have HG1 : Hid (w4.heap[g1]? = some (.cells #[.int .i64 0, .int .i64 0] 26 (0, 0))) := Lib.hid ((b4.block g1 (lt_of_block HG2.out)).trans HG2.out)
    clear b4 HG2
    have p3 := R4.out.cs.2.2.2.1
    have p4 := R4.out.cs.2.2.2.2.1
    have d0 := Lib.frozen_of_heap HG1.out 0
    have d1 := Lib.frozen_of_heap HG1.out 1
    have e0 : w4.cell? ⟨g1, 0, none⟩ = some (.int .i64 0) := by rw [Lib.cell_of_heap HG1.out]; rfl
    have e1 : w4.cell? ⟨g1, 1, none⟩ = some (.int .i64 0) := by rw [Lib.cell_of_heap HG1.out]; rfl
    have hz1 := lt_of_block HG1.out
    have hrb4 := cell_lt p3
    go_upto_region 5 with fail
    go_region
    all_goals
      go_wp2_with fail
      first
      | (obtain ⟨W, hW⟩ : ∃ W, ((((w4.alloc (.cells #[] 104)).setCell ⟨g1, 0, none⟩ (.int .i64 fc)).setCell ⟨g1, 1, none⟩ (.int .i64 (fpn : Int))).drew) = W := ⟨_, rfl⟩
         have hts := dr_ab HG1.out (.cells #[] 104) (.int .i64 fc) (.int .i64 (fpn : Int))
         have hbl : Below W0.heap.size W0 ((((w4.alloc (.cells #[] 104)).setCell ⟨g1, 0, none⟩ (.int .i64 fc)).setCell ⟨g1, 1, none⟩ (.int .i64 (fpn : Int))).drew) := ((((B4.out.alloc B4.out.size _).setCell (p := ⟨g1, 0, none⟩) hg1' _).setCell (p := ⟨g1, 1, none⟩) hg1' _).drew)
         rw [hW] at hts hbl ⊢
         have y4 : W.cell? ⟨g1, 0, none⟩ = some (.int .i64 fc) := by rw [Lib.cell_of_heap hts]; rfl
         have y5 : W.cell? ⟨g1, 1, none⟩ = some (.int .i64 (fpn : Int)) := by rw [Lib.cell_of_heap hts]; rfl
         clear d0 d1 e0 e1 p3 p4 hts hW
         refine bodyPost_ret (v := .tuple #[.slice (some ⟨w4.heap.size, 0, none⟩) 0 0, .agg #[.int .i64 fc, .int .i64 (fpn : Int)]]) (by simp [results, Tryd.results31, go_sem, y4, y5]) rfl ?_
         rw [F.out]
         exact ⟨_, 0, rfl, Nat.le_refl _, Nat.zero_le _, stRowO_nilR, hbl⟩)
      | (obtain ⟨W, hW⟩ : ∃ W, ((((w4.setCell ⟨g1, 0, none⟩ (.int .i64 fc)).setCell ⟨g1, 1, none⟩ (.int .i64 (fpn : Int))).alloc (.cells #[] 104)).drew) = W := ⟨_, rfl⟩
         have hts := dr_ba HG1.out (.cells #[] 104) (.int .i64 fc) (.int .i64 (fpn : Int))
         have hbl : Below W0.heap.size W0 ((((w4.setCell ⟨g1, 0, none⟩ (.int .i64 fc)).setCell ⟨g1, 1, none⟩ (.int .i64 (fpn : Int))).alloc (.cells #[] 104)).drew) := ((((B4.out.setCell (p := ⟨g1, 0, none⟩) hg1' _).setCell (p := ⟨g1, 1, none⟩) hg1' _).alloc (by have := B4.out.size; simpa using this) _).drew)
         rw [hW] at hts hbl ⊢
         have y4 : W.cell? ⟨g1, 0, none⟩ = some (.int .i64 fc) := by rw [Lib.cell_of_heap hts]; rfl
         have y5 : W.cell? ⟨g1, 1, none⟩ = some (.int .i64 (fpn : Int)) := by rw [Lib.cell_of_heap hts]; rfl
         clear d0 d1 e0 e1 p3 p4 hts hW
         refine bodyPost_ret (v := .tuple #[.slice (some ⟨w4.heap.size, 0, none⟩) 0 0, .agg #[.int .i64 fc, .int .i64 (fpn : Int)]]) (by simp [results, Tryd.results31, go_sem, y4, y5]) rfl ?_
         rw [F.out]
         exact ⟨_, 0, rfl, Nat.le_refl _, Nat.zero_le _, stRowO_nilR, hbl⟩)
end Go.Proofs.YtefcdpkficojgaaDoor
