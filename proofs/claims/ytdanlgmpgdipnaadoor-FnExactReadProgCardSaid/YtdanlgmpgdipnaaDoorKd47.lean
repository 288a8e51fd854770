/- Several texts in one: RdSt3. -/
import Derived.Test.YtdanlgmpgdipnaaDoorKd27
import Derived.Test.YtdanlgmpgdipnaaDoorKd28
namespace Go.Proofs.YtdanlgmpgdipnaaDoor
open Go.RowKit
set_option linter.unusedVariables false


theorem nesG_eq {L : List Sg} {n : Nat} {rec : Nat → Nat → Got (List St × Nat)} {k : Int} {i left : Nat} : nesG L n rec k i left = (rdT L n 6 (i + 1)).bind fun t i1 => (blkG L n rec i1 left).bind fun b i2 =>
    if k = 3 ∨ ¬ tx L i2 = tElse then .ok (.mk k ⟨#[]⟩ t b.1 [], b.2) i2
    else (elsG L n rec (i2 + 1) b.2).bind fun e i3 => .ok (.mk k ⟨#[]⟩ t b.1 e.1, e.2) i3 := rfl
theorem brace_word {L : List Sg} {i : Nat} (h : tx L i = ⟨#[125]⟩) : wordOf L i = 0 := by
  have h2 : nmB L i = false := by unfold nmB; rw [h]; decide
  unfold wordOf
  rw [h, h2]
  decide
theorem rdS_stop {L : List Sg} {n room i left : Nat} (h : wordOf L i = 0) : rdS L n room i left = .ok ([], left) i := by rw [rdS_eq, stepG, if_pos h]
theorem elsG_bad {L : List Sg} {n : Nat} {rec : Nat → Nat → Got (List St × Nat)} {i left : Nat} (h1 : tx L i = ⟨#[123]⟩) (h2 : tx L (i + 1) = ⟨#[125]⟩) : elsG L n rec i left = .bad 3 (posAt L n (i + 1)) := by
  unfold elsG; rw [if_pos ⟨h1, brace_word h2⟩]
theorem elsG_blk {L : List Sg} {n r i left : Nat} (h : ¬ (tx L i = ⟨#[123]⟩ ∧ i + 1 < L.length ∧ tx L (i + 1) = ⟨#[125]⟩)) : elsG L n (rdS L n r) i left = blkG L n (rdS L n r) i left := by
  unfold elsG
  split
  · next h1 =>
    rw [blk_ok h1.1, rdS_stop h1.2]
    unfold chkG
    rw [bind_ok]
    split
    · rfl
    · next h2 =>
      rw [bind_ok]
      have : ¬ tx L (i + 1) = ⟨#[125]⟩ := fun e => by
        by_cases hl : i + 1 < L.length
        · exact h ⟨h1.1, hl, e⟩
        · rw [tx_ge hl] at e; exact absurd e (by decide)
      rw [tk_bad this]; rfl
  · rfl
set_option maxHeartbeats 6400000 in
set_option maxRecDepth 100000 in
theorem rd_nested_of (r : Nat) (hr6 : r ≤ 6) (ih : BlC r) : NeC r := by
  intro d W0 w rb mb A c n i L m left k hd hd6 ee hml hk hlt
  have IH := Lib.hid ih
  have HD := Lib.hid hd
  have HK := Lib.hid hk
  have hB2 : (-1 : Int) ≤ d := by omega
  have hfd := sg_field
  clear ih hd hk
  have EE := Lib.hid ee
  have hrb := ee.lts.1
  have hmb := ee.lts.2
  have hi6 := ee.rd.hi
  have hL6 := ee.rd.hL
  clear ee
  go_enter Tryd.func70, Tryd.ntmps70
  have BA : Hid (Below w.heap.size w ((w.alloc (.cells #[.int .i64 0, .string ByteArray.empty, .int .i64 0, .int .i64 0, .string ByteArray.empty, .slice none 0 0, .slice none 0 0, .slice none 0 0] 67)).alloc (.cells #[.int .i64 k, .string ⟨#[]⟩, .int .i64 0, .int .i64 0, .string ⟨#[]⟩, .slice none 0 0, .slice none 0 0, .slice none 0 0] 67))) := Lib.hid (Below.alloc (Below.alloc (Below.refl _ _) (Nat.le_refl _) _) (by simp) _)
  have VA8 : Hid (((w.alloc (.cells #[.int .i64 0, .string ByteArray.empty, .int .i64 0, .int .i64 0, .string ByteArray.empty, .slice none 0 0, .slice none 0 0, .slice none 0 0] 67)).alloc (.cells #[.int .i64 k, .string ⟨#[]⟩, .int .i64 0, .int .i64 0, .string ⟨#[]⟩, .slice none 0 0, .slice none 0 0, .slice none 0 0] 67)).heap[w.heap.size]? = some (.cells #[.int .i64 0, .string ⟨#[]⟩, .int .i64 0, .int .i64 0, .string ⟨#[]⟩, .slice none 0 0, .slice none 0 0, .slice none 0 0] 67 (0, 0))) := Lib.hid ((heap_alloc_lt (by simp)).trans (heap_alloc_new _ _))
  have VA10 : Hid (((w.alloc (.cells #[.int .i64 0, .string ByteArray.empty, .int .i64 0, .int .i64 0, .string ByteArray.empty, .slice none 0 0, .slice none 0 0, .slice none 0 0] 67)).alloc (.cells #[.int .i64 k, .string ⟨#[]⟩, .int .i64 0, .int .i64 0, .string ⟨#[]⟩, .slice none 0 0, .slice none 0 0, .slice none 0 0] 67)).heap[w.heap.size + 1]? = some (.cells #[.int .i64 k, .string ⟨#[]⟩, .int .i64 0, .int .i64 0, .string ⟨#[]⟩, .slice none 0 0, .slice none 0 0, .slice none 0 0] 67 (0, 0))) := Lib.hid (by have := heap_alloc_new (w.alloc (.cells #[.int .i64 0, .string ByteArray.empty, .int .i64 0, .int .i64 0, .string ByteArray.empty, .slice none 0 0, .slice none 0 0, .slice none 0 0] 67)) (.cells #[.int .i64 k, .string ⟨#[]⟩, .int .i64 0, .int .i64 0, .string ⟨#[]⟩, .slice none 0 0, .slice none 0 0, .slice none 0 0] 67); simpa using this)
  go_upto_region 3 with fail
  obtain ⟨wa, hwa⟩ : ∃ wa, ((w.alloc (.cells #[.int .i64 0, .string ByteArray.empty, .int .i64 0, .int .i64 0, .string ByteArray.empty, .slice none 0 0, .slice none 0 0, .slice none 0 0] 67)).alloc (.cells #[.int .i64 k, .string ⟨#[]⟩, .int .i64 0, .int .i64 0, .string ⟨#[]⟩, .slice none 0 0, .slice none 0 0, .slice none 0 0] 67)) = wa := ⟨_, rfl⟩
  have hza : wa.heap.size = w.heap.size + 2 := by rw [← hwa]; simp
  have hwa2 : ((w.alloc (.cells #[.int .i64 0, .string ⟨#[]⟩, .int .i64 0, .int .i64 0, .string ⟨#[]⟩, .slice none 0 0, .slice none 0 0, .slice none 0 0] 67)).alloc (.cells #[.int .i64 k, .string ⟨#[]⟩, .int .i64 0, .int .i64 0, .string ⟨#[]⟩, .slice none 0 0, .slice none 0 0, .slice none 0 0] 67)) = wa := hwa
  (try first | rw [hwa] | rw [hwa2])
  rw [hwa] at BA VA8 VA10
  clear hwa hwa2
  have EA := Lib.hid (EE.out.below BA.out)
  have KA : Hid (KeepM rb mb w wa) := Lib.hid (KeepM.of_below BA.out)
  obtain ⟨g8, hg8⟩ : ∃ g, w.heap.size = g := ⟨_, rfl⟩
  obtain ⟨g10, hg10⟩ : ∃ g, w.heap.size + 1 = g := ⟨_, rfl⟩
  have HG8 := Lib.hid hg8
  have HG10 := Lib.hid hg10
  have hn1 : ¬ g8 = g10 := by omega
  have hn2 : ¬ g10 = g8 := by omega
  have hn3 : ¬ g8 = rb := by omega
  have hn4 : ¬ rb = g8 := by omega
  have hn5 : ¬ g10 = rb := by omega
  have hn6 : ¬ rb = g10 := by omega
  have hn7 : ¬ g8 = mb := by omega
  have hn8 : ¬ g10 = mb := by omega
  have hlt10 : g10 < wa.heap.size := by omega
  have hlt8 : g8 < wa.heap.size := by omega
  have HA8 : Hid (∀ b o, A = some ⟨b, o, none⟩ → b ≠ g8) := Lib.hid (fun b o e => by have := EE.out.as b o e; omega)
  have HA10 : Hid (∀ b o, A = some ⟨b, o, none⟩ → b ≠ g10) := Lib.hid (fun b o e => by have := EE.out.as b o e; omega)
  have HW10 : Hid (W0.heap.size ≤ g10) := Lib.hid (by have := EE.out.base.size; omega)
  rw [hg8] at VA8
  rw [hg10] at VA10
  (try rw [hg10])
  (try rw [hg8])
  clear hg8 hg10
  have E1b := Lib.hid (EA.out.at1 (by omega))
  have K1b : Hid (KeepM rb mb w (wa.setCell ⟨rb, 2, none⟩ (.int .i64 ((i : Int) + 1)))) := Lib.hid (KA.out.setCell (p := ⟨rb, 2, none⟩) (by simp) _)
  have V8b : Hid ((wa.setCell ⟨rb, 2, none⟩ (.int .i64 ((i : Int) + 1))).heap[g8]? = some (.cells #[.int .i64 0, .string ⟨#[]⟩, .int .i64 0, .int .i64 0, .string ⟨#[]⟩, .slice none 0 0, .slice none 0 0, .slice none 0 0] 67 (0, 0))) := Lib.hid ((Below.heap_setCell wa ⟨rb, 2, none⟩ _ g8 hn3).trans VA8.out)
  have V10b : Hid ((wa.setCell ⟨rb, 2, none⟩ (.int .i64 ((i : Int) + 1))).heap[g10]? = some (.cells #[.int .i64 k, .string ⟨#[]⟩, .int .i64 0, .int .i64 0, .string ⟨#[]⟩, .slice none 0 0, .slice none 0 0, .slice none 0 0] 67 (0, 0))) := Lib.hid ((Below.heap_setCell wa ⟨rb, 2, none⟩ _ g10 hn5).trans VA10.out)
  have S1b : Hid ((wa.setCell ⟨rb, 2, none⟩ (.int .i64 ((i : Int) + 1))).heap.size = wa.heap.size) := Lib.hid (by simp)
  obtain ⟨_, _, p2, _, _⟩ := EA.out.rd.cs
  have fr2 := EA.out.rd.fz 2
  have hrl := EA.out.lts.1
  go_wp2_with fail
  obtain ⟨wb, hwb⟩ : ∃ wb, wa.setCell ⟨rb, 2, none⟩ (.int .i64 ((i : Int) + 1)) = wb := ⟨_, rfl⟩
  rw [hwb] at E1b K1b V8b V10b S1b ⊢
  clear hwb p2 fr2
  have hcl := rd_term_all 6 (Nat.le_refl _) W0 wb rb A c n (i + 1) L E1b.out.tab E1b.out.base E1b.out.hr E1b.out.as E1b.out.rd
  rw [show (6 - ((6 : Nat) : Int)) = 0 from rfl] at hcl
  refine hcl.mono ?_
  clear hcl
  intro e w3 hret
  have k3 := hret.1
  have K3 : Hid (KeepM rb mb w w3) := Lib.hid (K1b.out.trans' (KeepM.of_r k3))
  have KR3 : Hid (KeepM rb mb wb w3) := Lib.hid (KeepM.of_r k3)
  have V8c : Hid (w3.heap[g8]? = some (.cells #[.int .i64 0, .string ⟨#[]⟩, .int .i64 0, .int .i64 0, .string ⟨#[]⟩, .slice none 0 0, .slice none 0 0, .slice none 0 0] 67 (0, 0))) := Lib.hid ((k3.block g8 (lt_of_block V8b.out) hn3).trans V8b.out)
  have V10c : Hid (w3.heap[g10]? = some (.cells #[.int .i64 k, .string ⟨#[]⟩, .int .i64 0, .int .i64 0, .string ⟨#[]⟩, .slice none 0 0, .slice none 0 0, .slice none 0 0] 67 (0, 0))) := Lib.hid ((k3.block g10 (lt_of_block V10b.out) hn5).trans V10b.out)
  have M3 := Lib.hid (E1b.out.many.keepR k3 EE.out.ne)
  have S3 : Hid (wb.heap.size ≤ w3.heap.size ∧ g10 < wb.heap.size ∧ rb < wb.heap.size ∧ mb < wb.heap.size) := Lib.hid ⟨k3.size, lt_of_block V10b.out, E1b.out.lts.1, E1b.out.lts.2⟩
  clear k3 V8b V10b S1b
  have GA := Lib.hid (nesG_eq (L := L) (n := n) (rec := rdS L n r) (k := k) (i := i) (left := left))
  obtain ⟨⟨c0, c1, c2, c3, c4, c5, c6, c7⟩, f0, f1, f2, f3, f4, f5, f6, f7⟩ := cells8R V10c.out
  have hz10c := lt_of_block V10c.out
  generalize rdT L n 6 (i + 1) = g at *
  cases g with
  | bad fc fp =>
    obtain ⟨_, q, rfl, r3⟩ := hret.bad
    have R3 := Lib.hid r3
    have G2 : Hid (nesG L n (rdS L n r) k i left = .bad fc fp) := Lib.hid (by rw [GA.out]; rfl)
    clear r3 hret
    have K4 : Hid (KeepM rb mb w ((((w3.setCell ⟨g10, 2, none⟩ (.int .i64 0)).setCell ⟨g10, 3, none⟩ (.int .i64 0)).setCell ⟨g10, 4, none⟩ (.string ⟨#[]⟩)).setCell ⟨g10, 5, none⟩ (.slice none 0 0))) := Lib.hid ((((K3.out.setg (by have := HG10.out; omega) _).setg (by have := HG10.out; omega) _).setg (by have := HG10.out; omega) _).setg (by have := HG10.out; omega) _)
    have R4 := Lib.hid ((((R3.out.setg hn5 HA10.out 2 (.int .i64 0)).setg hn5 HA10.out 3 (.int .i64 0)).setg hn5 HA10.out 4 (.string ⟨#[]⟩)).setg hn5 HA10.out 5 (.slice none 0 0))
    have M4 := Lib.hid ((((M3.out.set (o := 2) hn8 (.int .i64 0)).set (o := 3) hn8 (.int .i64 0)).set (o := 4) hn8 (.string ⟨#[]⟩)).set (o := 5) hn8 (.slice none 0 0))
    have V8d : Hid (((((w3.setCell ⟨g10, 2, none⟩ (.int .i64 0)).setCell ⟨g10, 3, none⟩ (.int .i64 0)).setCell ⟨g10, 4, none⟩ (.string ⟨#[]⟩)).setCell ⟨g10, 5, none⟩ (.slice none 0 0)).heap[g8]? = some (.cells #[.int .i64 0, .string ⟨#[]⟩, .int .i64 0, .int .i64 0, .string ⟨#[]⟩, .slice none 0 0, .slice none 0 0, .slice none 0 0] 67 (0, 0))) := Lib.hid ((s4_blk hn1 _ _ _ _).trans V8c.out)
    go_upto_region 6 with fail
    generalize ((((w3.setCell ⟨g10, 2, none⟩ (.int .i64 0)).setCell ⟨g10, 3, none⟩ (.int .i64 0)).setCell ⟨g10, 4, none⟩ (.string ⟨#[]⟩)).setCell ⟨g10, 5, none⟩ (.slice none 0 0)) = w4 at *
    clear c0 c1 c2 c3 c4 c5 c6 c7 f0 f1 f2 f3 f4 f5 f6 f7
    obtain ⟨⟨c0, c1, c2, c3, c4, c5, c6, c7⟩, f0, f1, f2, f3, f4, f5, f6, f7⟩ := cells8R V8d.out
    go_wp2_with fail
    refine bodyPost_ret (v := .tuple #[.agg #[.int .i64 0, .string ⟨#[]⟩, .int .i64 0, .int .i64 0, .string ⟨#[]⟩, .slice none 0 0, .slice none 0 0, .slice none 0 0], .bool false]) (by simp [results, Tryd.results70, go_sem, c0, c1, c2, c3, c4, c5, c6, c7]) rfl ?_
    rw [G2.out]
    exact finB ⟨0, ⟨#[]⟩, 0, 0, ⟨#[]⟩, none, 0, 0, none, 0, 0, none, 0, 0⟩ HG8.out K4.out R4.out M4.out EE.out.as EE.out.lts.1 EE.out.lts.2
  | ok t q =>
    obtain ⟨_, ty, tn, ts, tA, tm, tc, rfl, tof, r3⟩ := hret.ok
    have T3 := Lib.hid tof
    have E3 := Lib.hid (E1b.out.step KR3.out r3 M3.out)
    have GB : Hid (nesG L n (rdS L n r) k i left = (blkG L n (rdS L n r) q left).bind fun b i2 => if k = 3 ∨ ¬ tx L i2 = tElse then .ok (.mk k ⟨#[]⟩ t b.1 [], b.2) i2 else (elsG L n (rdS L n r) (i2 + 1) b.2).bind fun e i3 => .ok (.mk k ⟨#[]⟩ t b.1 e.1, e.2) i3) := Lib.hid (by rw [GA.out, bind_ok])
    clear r3 hret tof GA M3 KR3
    have E4 := Lib.hid ((((E3.out.setg hn5 hn8 HA10.out HW10.out 2 (.int .i64 ty)).setg hn5 hn8 HA10.out HW10.out 3 (.int .i64 tn)).setg hn5 hn8 HA10.out HW10.out 4 (.string ts)).setg hn5 hn8 HA10.out HW10.out 5 (.slice tA tm tc))
    have K4 : Hid (KeepM rb mb w ((((w3.setCell ⟨g10, 2, none⟩ (.int .i64 ty)).setCell ⟨g10, 3, none⟩ (.int .i64 tn)).setCell ⟨g10, 4, none⟩ (.string ts)).setCell ⟨g10, 5, none⟩ (.slice tA tm tc))) := Lib.hid ((((K3.out.setg (by have := HG10.out; omega) _).setg (by have := HG10.out; omega) _).setg (by have := HG10.out; omega) _).setg (by have := HG10.out; omega) _)
    have V8d : Hid (((((w3.setCell ⟨g10, 2, none⟩ (.int .i64 ty)).setCell ⟨g10, 3, none⟩ (.int .i64 tn)).setCell ⟨g10, 4, none⟩ (.string ts)).setCell ⟨g10, 5, none⟩ (.slice tA tm tc)).heap[g8]? = some (.cells #[.int .i64 0, .string ⟨#[]⟩, .int .i64 0, .int .i64 0, .string ⟨#[]⟩, .slice none 0 0, .slice none 0 0, .slice none 0 0] 67 (0, 0))) := Lib.hid ((s4_blk hn1 _ _ _ _).trans V8c.out)
    have V10d : Hid (((((w3.setCell ⟨g10, 2, none⟩ (.int .i64 ty)).setCell ⟨g10, 3, none⟩ (.int .i64 tn)).setCell ⟨g10, 4, none⟩ (.string ts)).setCell ⟨g10, 5, none⟩ (.slice tA tm tc)).heap[g10]? = some (.cells #[.int .i64 k, .string ⟨#[]⟩, .int .i64 ty, .int .i64 tn, .string ts, .slice tA tm tc, .slice none 0 0, .slice none 0 0] 67 (0, 0))) := Lib.hid (s8_t V10c.out _ _ _ _)
    have T4 := Lib.hid ((((T3.out.set (p := ⟨g10, 2, none⟩) (fun h => by have h1 : wb.heap.size ≤ g10 := h.1; have := S3.out; omega) (.int .i64 ty)).set (p := ⟨g10, 3, none⟩) (fun h => by have h1 : wb.heap.size ≤ g10 := h.1; have := S3.out; omega) (.int .i64 tn)).set (p := ⟨g10, 4, none⟩) (fun h => by have h1 : wb.heap.size ≤ g10 := h.1; have := S3.out; omega) (.string ts)).set (p := ⟨g10, 5, none⟩) (fun h => by have h1 : wb.heap.size ≤ g10 := h.1; have := S3.out; omega) (.slice tA tm tc))
    have S4 : Hid (((((w3.setCell ⟨g10, 2, none⟩ (.int .i64 ty)).setCell ⟨g10, 3, none⟩ (.int .i64 tn)).setCell ⟨g10, 4, none⟩ (.string ts)).setCell ⟨g10, 5, none⟩ (.slice tA tm tc)).heap.size = w3.heap.size) := Lib.hid (by simp)
    go_wp2_with fail
    obtain ⟨wd, hwd⟩ : ∃ wd, ((((w3.setCell ⟨g10, 2, none⟩ (.int .i64 ty)).setCell ⟨g10, 3, none⟩ (.int .i64 tn)).setCell ⟨g10, 4, none⟩ (.string ts)).setCell ⟨g10, 5, none⟩ (.slice tA tm tc)) = wd := ⟨_, rfl⟩
    rw [hwd] at E4 K4 V8d V10d T4 S4 ⊢
    have SD : Hid (w3.heap.size = wd.heap.size ∧ wb.heap.size ≤ wd.heap.size ∧ g10 < wd.heap.size ∧ rb < wd.heap.size ∧ mb < wd.heap.size ∧ g8 < g10) := Lib.hid (by have := S3.out; have := S4.out; have := HG8.out; have := HG10.out; omega)
    clear hwd c0 c1 c2 c3 c4 c5 c6 c7 f0 f1 f2 f3 f4 f5 f6 f7 E3 K3 V8c V10c T3
    refine (IH.out (d + 1) W0 wd rb mb A c n q L m left HD.out E4.out hml).mono ?_
    intro e w5 hret
    generalize blkG L n (rdS L n r) q left = g at *
    cases g with
    | bad fc fp =>
      obtain ⟨k5, q5, m5, rfl, r5, mm⟩ := hret
      have K5 : Hid (KeepM rb mb w w5) := Lib.hid (K4.out.trans' k5)
      have V8 : Hid (w5.heap[g8]? = some (.cells #[.int .i64 0, .string ⟨#[]⟩, .int .i64 0, .int .i64 0, .string ⟨#[]⟩, .slice none 0 0, .slice none 0 0, .slice none 0 0] 67 (0, 0))) := Lib.hid ((k5.block g8 (lt_of_block V8d.out) ⟨hn3, hn7⟩).trans V8d.out)
      have V10 : Hid (w5.heap[g10]? = some (.cells #[.int .i64 k, .string ⟨#[]⟩, .int .i64 ty, .int .i64 tn, .string ts, .slice tA tm tc, .slice none 0 0, .slice none 0 0] 67 (0, 0))) := Lib.hid ((k5.block g10 (lt_of_block V10d.out) ⟨hn5, hn8⟩).trans V10d.out)
      have R5b := Lib.hid (r5.setg hn5 HA10.out 6 (.slice none 0 0))
      have M5b := Lib.hid (mm.set (o := 6) hn8 (.slice none 0 0))
      have K5b : Hid (KeepM rb mb w (w5.setCell ⟨g10, 6, none⟩ (.slice none 0 0))) := Lib.hid (K5.out.setg (by have := HG10.out; omega) _)
      have V8e : Hid ((w5.setCell ⟨g10, 6, none⟩ (.slice none 0 0)).heap[g8]? = some (.cells #[.int .i64 0, .string ⟨#[]⟩, .int .i64 0, .int .i64 0, .string ⟨#[]⟩, .slice none 0 0, .slice none 0 0, .slice none 0 0] 67 (0, 0))) := Lib.hid ((Below.heap_setCell w5 ⟨g10, 6, none⟩ _ g8 hn1).trans V8.out)
      have G2 : Hid (nesG L n (rdS L n r) k i left = .bad fc fp) := Lib.hid (by rw [GB.out]; rfl)
      clear k5 r5 mm
      obtain ⟨⟨c0, c1, c2, c3, c4, c5, c6, c7⟩, f0, f1, f2, f3, f4, f5, f6, f7⟩ := cells8R V10.out
      have hz10 := lt_of_block V10.out
      go_upto_region 9 with fail
      generalize w5.setCell ⟨g10, 6, none⟩ (.slice none 0 0) = w6 at *
      clear c0 c1 c2 c3 c4 c5 c6 c7 f0 f1 f2 f3 f4 f5 f6 f7
      obtain ⟨⟨c0, c1, c2, c3, c4, c5, c6, c7⟩, f0, f1, f2, f3, f4, f5, f6, f7⟩ := cells8R V8e.out
      go_wp2_with fail
      refine bodyPost_ret (v := .tuple #[.agg #[.int .i64 0, .string ⟨#[]⟩, .int .i64 0, .int .i64 0, .string ⟨#[]⟩, .slice none 0 0, .slice none 0 0, .slice none 0 0], .bool false]) (by simp [results, Tryd.results70, go_sem, c0, c1, c2, c3, c4, c5, c6, c7]) rfl ?_
      rw [G2.out]
      exact finB ⟨0, ⟨#[]⟩, 0, 0, ⟨#[]⟩, none, 0, 0, none, 0, 0, none, 0, 0⟩ HG8.out K5b.out R5b.out M5b.out EE.out.as EE.out.lts.1 EE.out.lts.2
    | ok b q5 =>
      obtain ⟨bl, lf⟩ := b
      obtain ⟨k5, A5, e5c, m5, rfl, hl1, hl2, row5, r5, hm5, mm⟩ := hret
      simp only at hl1 row5 hm5
      have K5 : Hid (KeepM rb mb w w5) := Lib.hid (K4.out.trans' k5)
      have E5 := Lib.hid (E4.out.step k5 r5 mm)
      have V8 : Hid (w5.heap[g8]? = some (.cells #[.int .i64 0, .string ⟨#[]⟩, .int .i64 0, .int .i64 0, .string ⟨#[]⟩, .slice none 0 0, .slice none 0 0, .slice none 0 0] 67 (0, 0))) := Lib.hid ((k5.block g8 (lt_of_block V8d.out) ⟨hn3, hn7⟩).trans V8d.out)
      have V10 : Hid (w5.heap[g10]? = some (.cells #[.int .i64 k, .string ⟨#[]⟩, .int .i64 ty, .int .i64 tn, .string ts, .slice tA tm tc, .slice none 0 0, .slice none 0 0] 67 (0, 0))) := Lib.hid ((k5.block g10 (lt_of_block V10d.out) ⟨hn5, hn8⟩).trans V10d.out)
      have E6 := Lib.hid (E5.out.setg hn5 hn8 HA10.out HW10.out 6 (.slice A5 bl.length e5c))
      have K6 : Hid (KeepM rb mb w (w5.setCell ⟨g10, 6, none⟩ (.slice A5 bl.length e5c))) := Lib.hid (K5.out.setg (by have := HG10.out; omega) _)
      have V8e : Hid ((w5.setCell ⟨g10, 6, none⟩ (.slice A5 bl.length e5c)).heap[g8]? = some (.cells #[.int .i64 0, .string ⟨#[]⟩, .int .i64 0, .int .i64 0, .string ⟨#[]⟩, .slice none 0 0, .slice none 0 0, .slice none 0 0] 67 (0, 0))) := Lib.hid ((Below.heap_setCell w5 ⟨g10, 6, none⟩ _ g8 hn1).trans V8.out)
      have V10e : Hid ((w5.setCell ⟨g10, 6, none⟩ (.slice A5 bl.length e5c)).heap[g10]? = some (.cells #[.int .i64 k, .string ⟨#[]⟩, .int .i64 ty, .int .i64 tn, .string ts, .slice tA tm tc, .slice A5 bl.length e5c, .slice none 0 0] 67 (0, 0))) := Lib.hid (s8_6 V10.out _)
      have T6 := Lib.hid ((T4.out.keep fun b hb => k5.block b (by have := hb.2; have := SD.out; omega) ⟨by have := hb.1; have := S3.out; omega, by have := hb.1; have := S3.out; omega⟩).set (p := ⟨g10, 6, none⟩) (fun h => by have h1 : wb.heap.size ≤ g10 := h.1; have := S3.out; omega) (.slice A5 bl.length e5c))
      have RW6 := Lib.hid (row5.set (p := ⟨g10, 6, none⟩) (fun h => by have h1 : wd.heap.size ≤ g10 := h.1; have := SD.out; omega) (.slice A5 bl.length e5c))
      have S5 : Hid (wd.heap.size ≤ w5.heap.size) := Lib.hid k5.size
      have S6 : Hid ((w5.setCell ⟨g10, 6, none⟩ (.slice A5 bl.length e5c)).heap.size = w5.heap.size) := Lib.hid (by simp)
      have GC : Hid (nesG L n (rdS L n r) k i left = if k = 3 ∨ ¬ tx L q5 = tElse then .ok (.mk k ⟨#[]⟩ t bl [], lf) q5 else (elsG L n (rdS L n r) (q5 + 1) lf).bind fun e i3 => .ok (.mk k ⟨#[]⟩ t bl e.1, e.2) i3) := Lib.hid (by rw [GB.out, bind_ok])
      clear k5 r5 mm row5 GB E5 E4 K4 T4 V8d V10d
      obtain ⟨⟨c0, c1, c2, c3, c4, c5, c6, c7⟩, f0, f1, f2, f3, f4, f5, f6, f7⟩ := cells8R V10.out
      have hz10 := lt_of_block V10.out
      go_upto_region 10 with fail
      obtain ⟨w6, hw6⟩ : ∃ w6, (w5.setCell ⟨g10, 6, none⟩ (.slice A5 bl.length e5c)) = w6 := ⟨_, rfl⟩
      rw [hw6] at E6 K6 V8e V10e T6 RW6 S6 ⊢
      clear hw6 c0 c1 c2 c3 c4 c5 c6 c7 f0 f1 f2 f3 f4 f5 f6 f7 V8 V10 K5 hz10
      rcases HK.out with rfl | rfl
      · -- if
        go_wp2_with fail
        refine (rd_next _ rb A c n q5 L 0 0 E6.out.rd).mono ?_
        rintro e w7 ⟨rfl, b7⟩
        have K7 : Hid (KeepM rb mb w w7) := Lib.hid (K6.out.trans' (KeepM.of_below b7))
        have E7 := Lib.hid (E6.out.below b7)
        have V87 : Hid (w7.heap[g8]? = some (.cells #[.int .i64 0, .string ⟨#[]⟩, .int .i64 0, .int .i64 0, .string ⟨#[]⟩, .slice none 0 0, .slice none 0 0, .slice none 0 0] 67 (0, 0))) := Lib.hid ((b7.block g8 (lt_of_block V8e.out)).trans V8e.out)
        have V107 : Hid (w7.heap[g10]? = some (.cells #[.int .i64 2, .string ⟨#[]⟩, .int .i64 ty, .int .i64 tn, .string ts, .slice tA tm tc, .slice A5 bl.length e5c, .slice none 0 0] 67 (0, 0))) := Lib.hid ((b7.block g10 (lt_of_block V10e.out)).trans V10e.out)
        have T7 := Lib.hid (T6.out.belowO (fun b hb => by have := hb.2; have := SD.out; have := S5.out; have := S6.out; omega) b7)
        have RW7 := Lib.hid (RW6.out.belowO (fun b hb => by have := hb.2; have := S6.out; omega) b7)
        have SE : Hid (w5.heap.size ≤ w7.heap.size) := Lib.hid (by have := b7.size; have := S6.out; omega)
        have R7 := Lib.hid E7.out.rd
        have M7 := Lib.hid E7.out.many
        clear b7 E6 K6 V8e V10e T6 RW6
        by_cases he : tx L q5 = ⟨#[101, 108, 115, 101]⟩
        case neg =>
          have hq := txt_lit (l := [101, 108, 115, 101]) he
          have G2 : Hid (nesG L n (rdS L n r) 2 i left = .ok (.mk 2 ⟨#[]⟩ t bl [], lf) q5) := Lib.hid (by rw [GC.out, if_pos (.inr he)])
          generalize tx L q5 = tq at *
          obtain ⟨⟨c0, c1, c2, c3, c4, c5, c6, c7⟩, f0, f1, f2, f3, f4, f5, f6, f7⟩ := cells8R V87.out
          obtain ⟨⟨a0, a1, a2, a3, a4, a5, a6, a7⟩, _⟩ := cells8R V107.out
          have hz8 := lt_of_block V87.out
          have hz10 := lt_of_block V107.out
          go_wp2_with fail
          refine bodyPost_ret (v := .tuple #[.agg #[.int .i64 2, .string ⟨#[]⟩, .int .i64 ty, .int .i64 tn, .string ts, .slice tA tm tc, .slice A5 bl.length e5c, .slice none 0 0], .bool true]) (by simp [results, Tryd.results70, go_sem, c0, c1, c2, c3, c4, c5, c6, c7]) rfl ?_
          rw [G2.out]
          exact finO (F := fun b => Made wb w3 b ∨ Made wd w5 b) ⟨2, ⟨#[]⟩, ty, tn, ts, tA, tm, tc, A5, bl.length, e5c, none, 0, 0⟩ HG8.out K7.out R7.out M7.out EE.out.as EE.out.lts.1 EE.out.lts.2 (StO.mk' (T := Made wb w3) (B := Made wd w5) (E := fun _ => False) (show i64in 2 from by unfold i64in; omega) (Nat.zero_le _) T7.out rfl hl1 hl2 RW7.out rfl (Nat.le_refl _) (Nat.zero_le _) stRowO_nilR (fun _ h => .inl h) (fun _ h => .inr h) (fun _ h => h.elim) (fun b h1 h2 => by have := h1.2; have := h2.1; have := SD.out; omega) (fun _ _ h => h) (fun _ _ h => h)) (fun b h => by rcases h with h | h; all_goals (have h1 := h.1; have h2 := h.2; have := S3.out; have := SD.out; have := S5.out; have := SE.out; have := HG8.out; constructor <;> omega)) hm5
        have hq := txt_lity (l := [101, 108, 115, 101]) he
        have hq5 : q5 + 1 ≤ 6000 := by
          rcases Nat.lt_or_ge q5 L.length with h | h
          · omega
          · rw [tx_ge (by omega)] at he; exact absurd he (by decide)
        have GD : Hid (nesG L n (rdS L n r) 2 i left = (elsG L n (rdS L n r) (q5 + 1) lf).bind fun e i3 => .ok (.mk 2 ⟨#[]⟩ t bl e.1, e.2) i3) := Lib.hid (by rw [GC.out, if_neg (fun h => h.elim (fun h => absurd h (by decide)) (fun h => h he))])
        clear he GC
        have E8 := Lib.hid (E7.out.at1 hq5)
        have K8 : Hid (KeepM rb mb w (w7.setCell ⟨rb, 2, none⟩ (.int .i64 ((q5 : Int) + 1)))) := Lib.hid (K7.out.setCell (p := ⟨rb, 2, none⟩) (by simp) _)
        have V88 : Hid ((w7.setCell ⟨rb, 2, none⟩ (.int .i64 ((q5 : Int) + 1))).heap[g8]? = some (.cells #[.int .i64 0, .string ⟨#[]⟩, .int .i64 0, .int .i64 0, .string ⟨#[]⟩, .slice none 0 0, .slice none 0 0, .slice none 0 0] 67 (0, 0))) := Lib.hid ((Below.heap_setCell w7 ⟨rb, 2, none⟩ _ g8 hn3).trans V87.out)
        have V108 : Hid ((w7.setCell ⟨rb, 2, none⟩ (.int .i64 ((q5 : Int) + 1))).heap[g10]? = some (.cells #[.int .i64 2, .string ⟨#[]⟩, .int .i64 ty, .int .i64 tn, .string ts, .slice tA tm tc, .slice A5 bl.length e5c, .slice none 0 0] 67 (0, 0))) := Lib.hid ((Below.heap_setCell w7 ⟨rb, 2, none⟩ _ g10 hn5).trans V107.out)
        have T8 := Lib.hid (T7.out.set (p := ⟨rb, 2, none⟩) (fun h => by have h1 : wb.heap.size ≤ rb := h.1; have := S3.out; omega) (.int .i64 ((q5 : Int) + 1)))
        have RW8 := Lib.hid (RW7.out.set (p := ⟨rb, 2, none⟩) (fun h => by have h1 : wd.heap.size ≤ rb := h.1; have := SD.out; omega) (.int .i64 ((q5 : Int) + 1)))
        have S8 : Hid (w5.heap.size ≤ (w7.setCell ⟨rb, 2, none⟩ (.int .i64 ((q5 : Int) + 1))).heap.size ∧ w3.heap.size ≤ w5.heap.size) := Lib.hid ⟨by have := SE.out; simpa using this, by have := SD.out; have := S5.out; omega⟩
        obtain ⟨_, _, p2, _, _⟩ := R7.out.cs
        have fr2 := R7.out.fz 2
        have hrl := R7.out.lt
        generalize tx L q5 = tq at hq ⊢
        go_upto_region 13 with fail
        obtain ⟨w8, hw8⟩ : ∃ w8, (w7.setCell ⟨rb, 2, none⟩ (.int .i64 ((q5 : Int) + 1))) = w8 := ⟨_, rfl⟩
        rw [hw8] at E8 K8 V88 V108 T8 RW8 S8 ⊢
        clear hw8 p2 fr2 hrl E7 K7 V87 V107 T7 RW7 R7 M7 SE
        obtain ⟨j, hj⟩ : ∃ j, q5 + 1 = j := ⟨_, rfl⟩
        rw [hj] at E8 GD
        have hj6 : j ≤ 6000 := by omega
        have hLc := E8.out.rd.hc
        by_cases h1 : tx L j = ⟨#[123]⟩
        case neg =>
          have hp := txt_lit (l := [123]) h1
          have GE : Hid (nesG L n (rdS L n r) 2 i left = (blkG L n (rdS L n r) j lf).bind fun e i3 => .ok (.mk 2 ⟨#[]⟩ t bl e.1, e.2) i3) := Lib.hid (by rw [GD.out, elsG_blk (fun h => h1 h.1)])
          clear GD h1
          refine wp_region_later (by kernel_rfl) (by kernel_rfl) ?_
          intro gw hgw hcw
          have HG := Lib.hid hgw
          have HC := Lib.hid hcw
          clear hgw hcw
          have P := Lib.hid (fun m' => (E8.out.rd.below (HG.out m')).cs)
          have p0 : ∀ m', (gw m').cell? ⟨rb, 0, none⟩ = some (.slice A L.length c) := fun m' => (P.out m').1
          have p2 : ∀ m', (gw m').cell? ⟨rb, 2, none⟩ = some (.int .i64 (j : Int)) := fun m' => (P.out m').2.2.1
          repeat (go_big_quiet_step ((first | (go_at_call 32; exact later_of HC (rd_next _ rb A c n j L 0 0 (E8.out.rd.below (HG.out _)))))))
          refine wpQuiet_nil ?_
          intro _ hw'
          obtain ⟨nq, hw''⟩ := hw'
          subst hw''
          clear p0 p2 P
          rename Later _ => mm
          have E9 := Lib.hid (E8.out.below (HG.out mm))
          have K9 : Hid (KeepM rb mb w (gw mm)) := Lib.hid (K8.out.trans' (KeepM.of_below (HG.out mm)))
          have V89 : Hid ((gw mm).heap[g8]? = some (.cells #[.int .i64 0, .string ⟨#[]⟩, .int .i64 0, .int .i64 0, .string ⟨#[]⟩, .slice none 0 0, .slice none 0 0, .slice none 0 0] 67 (0, 0))) := Lib.hid (((HG.out mm).block g8 (lt_of_block V88.out)).trans V88.out)
          have V109 : Hid ((gw mm).heap[g10]? = some (.cells #[.int .i64 2, .string ⟨#[]⟩, .int .i64 ty, .int .i64 tn, .string ts, .slice tA tm tc, .slice A5 bl.length e5c, .slice none 0 0] 67 (0, 0))) := Lib.hid (((HG.out mm).block g10 (lt_of_block V108.out)).trans V108.out)
          have T9 := Lib.hid (T8.out.belowO (fun b hb => by have := hb.2; have := S8.out; omega) (HG.out mm))
          have RW9 := Lib.hid (RW8.out.belowO (fun b hb => by have := hb.2; have := S8.out; omega) (HG.out mm))
          have S9 : Hid (w5.heap.size ≤ (gw mm).heap.size) := Lib.hid (by have := (HG.out mm).size; have := S8.out; omega)
          have R9 := Lib.hid E9.out.rd
          have M9 := Lib.hid E9.out.many
          generalize gw mm = w9 at *
          go_upto_region 16 with fail
          go_wp2_with fail
          refine (IH.out (d + 1) W0 w9 rb mb A c n j L m5 lf HD.out E9.out hm5).mono ?_
          intro e w10 hret
          generalize blkG L n (rdS L n r) j lf = g at *
          cases g with
          | bad fc fp =>
            obtain ⟨k10, q10, m10, rfl, r10, mm10⟩ := hret
            have K10 : Hid (KeepM rb mb w w10) := Lib.hid (K9.out.trans' k10)
            have V8a : Hid (w10.heap[g8]? = some (.cells #[.int .i64 0, .string ⟨#[]⟩, .int .i64 0, .int .i64 0, .string ⟨#[]⟩, .slice none 0 0, .slice none 0 0, .slice none 0 0] 67 (0, 0))) := Lib.hid ((k10.block g8 (lt_of_block V89.out) ⟨hn3, hn7⟩).trans V89.out)
            have V10a : Hid (w10.heap[g10]? = some (.cells #[.int .i64 2, .string ⟨#[]⟩, .int .i64 ty, .int .i64 tn, .string ts, .slice tA tm tc, .slice A5 bl.length e5c, .slice none 0 0] 67 (0, 0))) := Lib.hid ((k10.block g10 (lt_of_block V109.out) ⟨hn5, hn8⟩).trans V109.out)
            have R11 := Lib.hid (r10.setg hn5 HA10.out 7 (.slice none 0 0))
            have M11 := Lib.hid (mm10.set (o := 7) hn8 (.slice none 0 0))
            have K11 : Hid (KeepM rb mb w (w10.setCell ⟨g10, 7, none⟩ (.slice none 0 0))) := Lib.hid (K10.out.setg (by have := HG10.out; omega) _)
            have V8b : Hid ((w10.setCell ⟨g10, 7, none⟩ (.slice none 0 0)).heap[g8]? = some (.cells #[.int .i64 0, .string ⟨#[]⟩, .int .i64 0, .int .i64 0, .string ⟨#[]⟩, .slice none 0 0, .slice none 0 0, .slice none 0 0] 67 (0, 0))) := Lib.hid ((Below.heap_setCell w10 ⟨g10, 7, none⟩ _ g8 hn1).trans V8a.out)
            have V10b : Hid ((w10.setCell ⟨g10, 7, none⟩ (.slice none 0 0)).heap[g10]? = some (.cells #[.int .i64 2, .string ⟨#[]⟩, .int .i64 ty, .int .i64 tn, .string ts, .slice tA tm tc, .slice A5 bl.length e5c, .slice none 0 0] 67 (0, 0))) := Lib.hid (s8_7 V10a.out _)
            have G2 : Hid (nesG L n (rdS L n r) 2 i left = .bad fc fp) := Lib.hid (by rw [GE.out]; rfl)
            clear k10 r10 mm10
            obtain ⟨⟨c0, c1, c2, c3, c4, c5, c6, c7⟩, f0, f1, f2, f3, f4, f5, f6, f7⟩ := cells8R V10a.out
            have hz10 := lt_of_block V10a.out
            go_upto_region 17 with fail
            generalize (w10.setCell ⟨g10, 7, none⟩ (.slice none 0 0)) = w11 at *
            clear c0 c1 c2 c3 c4 c5 c6 c7 f0 f1 f2 f3 f4 f5 f6 f7 hz10
            obtain ⟨⟨c0, c1, c2, c3, c4, c5, c6, c7⟩, f0, f1, f2, f3, f4, f5, f6, f7⟩ := cells8R V8b.out
            obtain ⟨⟨a0, a1, a2, a3, a4, a5, a6, a7⟩, _⟩ := cells8R V10b.out
            have hz8 := lt_of_block V8b.out
            have hz10 := lt_of_block V10b.out
            go_wp2_with fail
            refine bodyPost_ret (v := .tuple #[.agg #[.int .i64 2, .string ⟨#[]⟩, .int .i64 ty, .int .i64 tn, .string ts, .slice tA tm tc, .slice A5 bl.length e5c, .slice none 0 0], .bool false]) (by simp [results, Tryd.results70, go_sem, c0, c1, c2, c3, c4, c5, c6, c7]) rfl ?_
            rw [G2.out]
            exact finB ⟨2, ⟨#[]⟩, ty, tn, ts, tA, tm, tc, A5, bl.length, e5c, none, 0, 0⟩ HG8.out K11.out R11.out M11.out EE.out.as EE.out.lts.1 EE.out.lts.2
          | ok b q10 =>
            obtain ⟨el, lf2⟩ := b
            obtain ⟨k10, A10, c10, m10, rfl, hl10, hl11, row10, r10, hm10, mm10⟩ := hret
            simp only at hl10 row10 hm10
            have K10 : Hid (KeepM rb mb w w10) := Lib.hid (K9.out.trans' k10)
            have V8a : Hid (w10.heap[g8]? = some (.cells #[.int .i64 0, .string ⟨#[]⟩, .int .i64 0, .int .i64 0, .string ⟨#[]⟩, .slice none 0 0, .slice none 0 0, .slice none 0 0] 67 (0, 0))) := Lib.hid ((k10.block g8 (lt_of_block V89.out) ⟨hn3, hn7⟩).trans V89.out)
            have V10a : Hid (w10.heap[g10]? = some (.cells #[.int .i64 2, .string ⟨#[]⟩, .int .i64 ty, .int .i64 tn, .string ts, .slice tA tm tc, .slice A5 bl.length e5c, .slice none 0 0] 67 (0, 0))) := Lib.hid ((k10.block g10 (lt_of_block V109.out) ⟨hn5, hn8⟩).trans V109.out)
            have R11 := Lib.hid (r10.setg hn5 HA10.out 7 (.slice A10 el.length c10))
            have M11 := Lib.hid (mm10.set (o := 7) hn8 (.slice A10 el.length c10))
            have K11 : Hid (KeepM rb mb w (w10.setCell ⟨g10, 7, none⟩ (.slice A10 el.length c10))) := Lib.hid (K10.out.setg (by have := HG10.out; omega) _)
            have V8b : Hid ((w10.setCell ⟨g10, 7, none⟩ (.slice A10 el.length c10)).heap[g8]? = some (.cells #[.int .i64 0, .string ⟨#[]⟩, .int .i64 0, .int .i64 0, .string ⟨#[]⟩, .slice none 0 0, .slice none 0 0, .slice none 0 0] 67 (0, 0))) := Lib.hid ((Below.heap_setCell w10 ⟨g10, 7, none⟩ _ g8 hn1).trans V8a.out)
            have V10b : Hid ((w10.setCell ⟨g10, 7, none⟩ (.slice A10 el.length c10)).heap[g10]? = some (.cells #[.int .i64 2, .string ⟨#[]⟩, .int .i64 ty, .int .i64 tn, .string ts, .slice tA tm tc, .slice A5 bl.length e5c, .slice A10 el.length c10] 67 (0, 0))) := Lib.hid (s8_7 V10a.out _)
            have h910 := k10.size
            have T11 := Lib.hid ((T9.out.keep fun b hb => k10.block b (by have := hb.2; have := SD.out; have := S5.out; have := S9.out; omega) ⟨by have := hb.1; have := S3.out; omega, by have := hb.1; have := S3.out; omega⟩).set (p := ⟨g10, 7, none⟩) (fun h => by have h1 : wb.heap.size ≤ g10 := h.1; have := S3.out; omega) (.slice A10 el.length c10))
            have RW11 := Lib.hid ((RW9.out.keep fun b hb => k10.block b (by have := hb.2; have := S9.out; omega) ⟨by have := hb.1; have := SD.out; omega, by have := hb.1; have := SD.out; omega⟩).set (p := ⟨g10, 7, none⟩) (fun h => by have h1 : wd.heap.size ≤ g10 := h.1; have := SD.out; omega) (.slice A10 el.length c10))
            have RX11 := Lib.hid (row10.set (p := ⟨g10, 7, none⟩) (fun h => by have h1 : w9.heap.size ≤ g10 := h.1; have := S9.out; have := S5.out; have := SD.out; omega) (.slice A10 el.length c10))
            have S11 : Hid ((w10.setCell ⟨g10, 7, none⟩ (.slice A10 el.length c10)).heap.size = w10.heap.size ∧ w9.heap.size ≤ w10.heap.size) := Lib.hid ⟨by simp, h910⟩
            have G2 : Hid (nesG L n (rdS L n r) 2 i left = .ok (.mk 2 ⟨#[]⟩ t bl el, lf2) q10) := Lib.hid (by rw [GE.out]; rfl)
            clear k10 r10 mm10 row10 h910
            obtain ⟨⟨c0, c1, c2, c3, c4, c5, c6, c7⟩, f0, f1, f2, f3, f4, f5, f6, f7⟩ := cells8R V10a.out
            have hz10 := lt_of_block V10a.out
            go_upto_region 17 with fail
            generalize (w10.setCell ⟨g10, 7, none⟩ (.slice A10 el.length c10)) = w11 at *
            clear c0 c1 c2 c3 c4 c5 c6 c7 f0 f1 f2 f3 f4 f5 f6 f7 hz10
            obtain ⟨⟨c0, c1, c2, c3, c4, c5, c6, c7⟩, f0, f1, f2, f3, f4, f5, f6, f7⟩ := cells8R V8b.out
            obtain ⟨⟨a0, a1, a2, a3, a4, a5, a6, a7⟩, _⟩ := cells8R V10b.out
            have hz8 := lt_of_block V8b.out
            have hz10 := lt_of_block V10b.out
            go_wp2_with fail
            refine bodyPost_ret (v := .tuple #[.agg #[.int .i64 2, .string ⟨#[]⟩, .int .i64 ty, .int .i64 tn, .string ts, .slice tA tm tc, .slice A5 bl.length e5c, .slice A10 el.length c10], .bool true]) (by simp [results, Tryd.results70, go_sem, c0, c1, c2, c3, c4, c5, c6, c7]) rfl ?_
            rw [G2.out]
            exact finO (F := fun b => Made wb w3 b ∨ Made wd w5 b ∨ Made w9 w10 b) ⟨2, ⟨#[]⟩, ty, tn, ts, tA, tm, tc, A5, bl.length, e5c, A10, el.length, c10⟩ HG8.out K11.out R11.out M11.out EE.out.as EE.out.lts.1 EE.out.lts.2 (StO.mk' (T := Made wb w3) (B := Made wd w5) (E := Made w9 w10) (show i64in 2 from by unfold i64in; omega) (Nat.zero_le _) T11.out rfl hl1 hl2 RW11.out rfl hl10 hl11 RX11.out (fun _ h => .inl h) (fun _ h => .inr (.inl h)) (fun _ h => .inr (.inr h)) (fun b h1 h2 => by have := h1.2; have := h2.1; have := SD.out; omega) (fun b h1 h2 => by have := h1.2; have := h2.1; have := SD.out; have := S5.out; have := S9.out; omega) (fun b h1 h2 => by have := h1.2; have := h2.1; have := S9.out; omega)) (fun b h => by rcases h with h | h | h; all_goals (have h1 := h.1; have h2 := h.2; have := S3.out; have := SD.out; have := S5.out; have := S9.out; have := S11.out; have := HG8.out; constructor <;> omega)) hm10
        have hp := txt_lity (l := [123]) h1
        by_cases h2 : j + 1 < L.length
        case neg =>
          have GE : Hid (nesG L n (rdS L n r) 2 i left = (blkG L n (rdS L n r) j lf).bind fun e i3 => .ok (.mk 2 ⟨#[]⟩ t bl e.1, e.2) i3) := Lib.hid (by rw [GD.out, elsG_blk (fun h => h2 h.2.1)])
          have h2i : ¬ (j : Int) + 1 < (L.length : Int) := by omega
          clear GD h1 h2
          refine wp_region_later (by kernel_rfl) (by kernel_rfl) ?_
          intro gw hgw hcw
          have HG := Lib.hid hgw
          have HC := Lib.hid hcw
          clear hgw hcw
          have P := Lib.hid (fun m' => (E8.out.rd.below (HG.out m')).cs)
          have p0 : ∀ m', (gw m').cell? ⟨rb, 0, none⟩ = some (.slice A L.length c) := fun m' => (P.out m').1
          have p2 : ∀ m', (gw m').cell? ⟨rb, 2, none⟩ = some (.int .i64 (j : Int)) := fun m' => (P.out m').2.2.1
          repeat (go_big_quiet_step ((first | (go_at_call 32; exact later_of HC (rd_next _ rb A c n j L 0 0 (E8.out.rd.below (HG.out _)))))))
          refine wpQuiet_nil ?_
          intro _ hw'
          obtain ⟨nq, hw''⟩ := hw'
          subst hw''
          clear p0 p2 P
          rename Later _ => mm
          have E9 := Lib.hid (E8.out.below (HG.out mm))
          have K9 : Hid (KeepM rb mb w (gw mm)) := Lib.hid (K8.out.trans' (KeepM.of_below (HG.out mm)))
          have V89 : Hid ((gw mm).heap[g8]? = some (.cells #[.int .i64 0, .string ⟨#[]⟩, .int .i64 0, .int .i64 0, .string ⟨#[]⟩, .slice none 0 0, .slice none 0 0, .slice none 0 0] 67 (0, 0))) := Lib.hid (((HG.out mm).block g8 (lt_of_block V88.out)).trans V88.out)
          have V109 : Hid ((gw mm).heap[g10]? = some (.cells #[.int .i64 2, .string ⟨#[]⟩, .int .i64 ty, .int .i64 tn, .string ts, .slice tA tm tc, .slice A5 bl.length e5c, .slice none 0 0] 67 (0, 0))) := Lib.hid (((HG.out mm).block g10 (lt_of_block V108.out)).trans V108.out)
          have T9 := Lib.hid (T8.out.belowO (fun b hb => by have := hb.2; have := S8.out; omega) (HG.out mm))
          have RW9 := Lib.hid (RW8.out.belowO (fun b hb => by have := hb.2; have := S8.out; omega) (HG.out mm))
          have S9 : Hid (w5.heap.size ≤ (gw mm).heap.size) := Lib.hid (by have := (HG.out mm).size; have := S8.out; omega)
          have R9 := Lib.hid E9.out.rd
          have M9 := Lib.hid E9.out.many
          generalize gw mm = w9 at *
          go_upto_region 16 with fail
          go_wp2_with fail
          refine (IH.out (d + 1) W0 w9 rb mb A c n j L m5 lf HD.out E9.out hm5).mono ?_
          intro e w10 hret
          generalize blkG L n (rdS L n r) j lf = g at *
          cases g with
          | bad fc fp =>
            obtain ⟨k10, q10, m10, rfl, r10, mm10⟩ := hret
            have K10 : Hid (KeepM rb mb w w10) := Lib.hid (K9.out.trans' k10)
            have V8a : Hid (w10.heap[g8]? = some (.cells #[.int .i64 0, .string ⟨#[]⟩, .int .i64 0, .int .i64 0, .string ⟨#[]⟩, .slice none 0 0, .slice none 0 0, .slice none 0 0] 67 (0, 0))) := Lib.hid ((k10.block g8 (lt_of_block V89.out) ⟨hn3, hn7⟩).trans V89.out)
            have V10a : Hid (w10.heap[g10]? = some (.cells #[.int .i64 2, .string ⟨#[]⟩, .int .i64 ty, .int .i64 tn, .string ts, .slice tA tm tc, .slice A5 bl.length e5c, .slice none 0 0] 67 (0, 0))) := Lib.hid ((k10.block g10 (lt_of_block V109.out) ⟨hn5, hn8⟩).trans V109.out)
            have R11 := Lib.hid (r10.setg hn5 HA10.out 7 (.slice none 0 0))
            have M11 := Lib.hid (mm10.set (o := 7) hn8 (.slice none 0 0))
            have K11 : Hid (KeepM rb mb w (w10.setCell ⟨g10, 7, none⟩ (.slice none 0 0))) := Lib.hid (K10.out.setg (by have := HG10.out; omega) _)
            have V8b : Hid ((w10.setCell ⟨g10, 7, none⟩ (.slice none 0 0)).heap[g8]? = some (.cells #[.int .i64 0, .string ⟨#[]⟩, .int .i64 0, .int .i64 0, .string ⟨#[]⟩, .slice none 0 0, .slice none 0 0, .slice none 0 0] 67 (0, 0))) := Lib.hid ((Below.heap_setCell w10 ⟨g10, 7, none⟩ _ g8 hn1).trans V8a.out)
            have V10b : Hid ((w10.setCell ⟨g10, 7, none⟩ (.slice none 0 0)).heap[g10]? = some (.cells #[.int .i64 2, .string ⟨#[]⟩, .int .i64 ty, .int .i64 tn, .string ts, .slice tA tm tc, .slice A5 bl.length e5c, .slice none 0 0] 67 (0, 0))) := Lib.hid (s8_7 V10a.out _)
            have G2 : Hid (nesG L n (rdS L n r) 2 i left = .bad fc fp) := Lib.hid (by rw [GE.out]; rfl)
            clear k10 r10 mm10
            obtain ⟨⟨c0, c1, c2, c3, c4, c5, c6, c7⟩, f0, f1, f2, f3, f4, f5, f6, f7⟩ := cells8R V10a.out
            have hz10 := lt_of_block V10a.out
            go_upto_region 17 with fail
            generalize (w10.setCell ⟨g10, 7, none⟩ (.slice none 0 0)) = w11 at *
            clear c0 c1 c2 c3 c4 c5 c6 c7 f0 f1 f2 f3 f4 f5 f6 f7 hz10
            obtain ⟨⟨c0, c1, c2, c3, c4, c5, c6, c7⟩, f0, f1, f2, f3, f4, f5, f6, f7⟩ := cells8R V8b.out
            obtain ⟨⟨a0, a1, a2, a3, a4, a5, a6, a7⟩, _⟩ := cells8R V10b.out
            have hz8 := lt_of_block V8b.out
            have hz10 := lt_of_block V10b.out
            go_wp2_with fail
            refine bodyPost_ret (v := .tuple #[.agg #[.int .i64 2, .string ⟨#[]⟩, .int .i64 ty, .int .i64 tn, .string ts, .slice tA tm tc, .slice A5 bl.length e5c, .slice none 0 0], .bool false]) (by simp [results, Tryd.results70, go_sem, c0, c1, c2, c3, c4, c5, c6, c7]) rfl ?_
            rw [G2.out]
            exact finB ⟨2, ⟨#[]⟩, ty, tn, ts, tA, tm, tc, A5, bl.length, e5c, none, 0, 0⟩ HG8.out K11.out R11.out M11.out EE.out.as EE.out.lts.1 EE.out.lts.2
          | ok b q10 =>
            obtain ⟨el, lf2⟩ := b
            obtain ⟨k10, A10, c10, m10, rfl, hl10, hl11, row10, r10, hm10, mm10⟩ := hret
            simp only at hl10 row10 hm10
            have K10 : Hid (KeepM rb mb w w10) := Lib.hid (K9.out.trans' k10)
            have V8a : Hid (w10.heap[g8]? = some (.cells #[.int .i64 0, .string ⟨#[]⟩, .int .i64 0, .int .i64 0, .string ⟨#[]⟩, .slice none 0 0, .slice none 0 0, .slice none 0 0] 67 (0, 0))) := Lib.hid ((k10.block g8 (lt_of_block V89.out) ⟨hn3, hn7⟩).trans V89.out)
            have V10a : Hid (w10.heap[g10]? = some (.cells #[.int .i64 2, .string ⟨#[]⟩, .int .i64 ty, .int .i64 tn, .string ts, .slice tA tm tc, .slice A5 bl.length e5c, .slice none 0 0] 67 (0, 0))) := Lib.hid ((k10.block g10 (lt_of_block V109.out) ⟨hn5, hn8⟩).trans V109.out)
            have R11 := Lib.hid (r10.setg hn5 HA10.out 7 (.slice A10 el.length c10))
            have M11 := Lib.hid (mm10.set (o := 7) hn8 (.slice A10 el.length c10))
            have K11 : Hid (KeepM rb mb w (w10.setCell ⟨g10, 7, none⟩ (.slice A10 el.length c10))) := Lib.hid (K10.out.setg (by have := HG10.out; omega) _)
            have V8b : Hid ((w10.setCell ⟨g10, 7, none⟩ (.slice A10 el.length c10)).heap[g8]? = some (.cells #[.int .i64 0, .string ⟨#[]⟩, .int .i64 0, .int .i64 0, .string ⟨#[]⟩, .slice none 0 0, .slice none 0 0, .slice none 0 0] 67 (0, 0))) := Lib.hid ((Below.heap_setCell w10 ⟨g10, 7, none⟩ _ g8 hn1).trans V8a.out)
            have V10b : Hid ((w10.setCell ⟨g10, 7, none⟩ (.slice A10 el.length c10)).heap[g10]? = some (.cells #[.int .i64 2, .string ⟨#[]⟩, .int .i64 ty, .int .i64 tn, .string ts, .slice tA tm tc, .slice A5 bl.length e5c, .slice A10 el.length c10] 67 (0, 0))) := Lib.hid (s8_7 V10a.out _)
            have h910 := k10.size
            have T11 := Lib.hid ((T9.out.keep fun b hb => k10.block b (by have := hb.2; have := SD.out; have := S5.out; have := S9.out; omega) ⟨by have := hb.1; have := S3.out; omega, by have := hb.1; have := S3.out; omega⟩).set (p := ⟨g10, 7, none⟩) (fun h => by have h1 : wb.heap.size ≤ g10 := h.1; have := S3.out; omega) (.slice A10 el.length c10))
            have RW11 := Lib.hid ((RW9.out.keep fun b hb => k10.block b (by have := hb.2; have := S9.out; omega) ⟨by have := hb.1; have := SD.out; omega, by have := hb.1; have := SD.out; omega⟩).set (p := ⟨g10, 7, none⟩) (fun h => by have h1 : wd.heap.size ≤ g10 := h.1; have := SD.out; omega) (.slice A10 el.length c10))
            have RX11 := Lib.hid (row10.set (p := ⟨g10, 7, none⟩) (fun h => by have h1 : w9.heap.size ≤ g10 := h.1; have := S9.out; have := S5.out; have := SD.out; omega) (.slice A10 el.length c10))
            have S11 : Hid ((w10.setCell ⟨g10, 7, none⟩ (.slice A10 el.length c10)).heap.size = w10.heap.size ∧ w9.heap.size ≤ w10.heap.size) := Lib.hid ⟨by simp, h910⟩
            have G2 : Hid (nesG L n (rdS L n r) 2 i left = .ok (.mk 2 ⟨#[]⟩ t bl el, lf2) q10) := Lib.hid (by rw [GE.out]; rfl)
            clear k10 r10 mm10 row10 h910
            obtain ⟨⟨c0, c1, c2, c3, c4, c5, c6, c7⟩, f0, f1, f2, f3, f4, f5, f6, f7⟩ := cells8R V10a.out
            have hz10 := lt_of_block V10a.out
            go_upto_region 17 with fail
            generalize (w10.setCell ⟨g10, 7, none⟩ (.slice A10 el.length c10)) = w11 at *
            clear c0 c1 c2 c3 c4 c5 c6 c7 f0 f1 f2 f3 f4 f5 f6 f7 hz10
            obtain ⟨⟨c0, c1, c2, c3, c4, c5, c6, c7⟩, f0, f1, f2, f3, f4, f5, f6, f7⟩ := cells8R V8b.out
            obtain ⟨⟨a0, a1, a2, a3, a4, a5, a6, a7⟩, _⟩ := cells8R V10b.out
            have hz8 := lt_of_block V8b.out
            have hz10 := lt_of_block V10b.out
            go_wp2_with fail
            refine bodyPost_ret (v := .tuple #[.agg #[.int .i64 2, .string ⟨#[]⟩, .int .i64 ty, .int .i64 tn, .string ts, .slice tA tm tc, .slice A5 bl.length e5c, .slice A10 el.length c10], .bool true]) (by simp [results, Tryd.results70, go_sem, c0, c1, c2, c3, c4, c5, c6, c7]) rfl ?_
            rw [G2.out]
            exact finO (F := fun b => Made wb w3 b ∨ Made wd w5 b ∨ Made w9 w10 b) ⟨2, ⟨#[]⟩, ty, tn, ts, tA, tm, tc, A5, bl.length, e5c, A10, el.length, c10⟩ HG8.out K11.out R11.out M11.out EE.out.as EE.out.lts.1 EE.out.lts.2 (StO.mk' (T := Made wb w3) (B := Made wd w5) (E := Made w9 w10) (show i64in 2 from by unfold i64in; omega) (Nat.zero_le _) T11.out rfl hl1 hl2 RW11.out rfl hl10 hl11 RX11.out (fun _ h => .inl h) (fun _ h => .inr (.inl h)) (fun _ h => .inr (.inr h)) (fun b h1 h2 => by have := h1.2; have := h2.1; have := SD.out; omega) (fun b h1 h2 => by have := h1.2; have := h2.1; have := SD.out; have := S5.out; have := S9.out; omega) (fun b h1 h2 => by have := h1.2; have := h2.1; have := S9.out; omega)) (fun b h => by rcases h with h | h | h; all_goals (have h1 := h.1; have h2 := h.2; have := S3.out; have := SD.out; have := S5.out; have := S9.out; have := S11.out; have := HG8.out; constructor <;> omega)) hm10
        have h2i : (j : Int) + 1 < (L.length : Int) := by omega
        have h2z : (0 : Int) ≤ (j : Int) + 1 := by omega
        obtain ⟨bx, ox, rfl, _, e1, _⟩ := rd_sg E8.out.rd.rd h2
        have htx := tx_lt h2
        generalize hx : L[j + 1] = x at *
        obtain ⟨xk, xt, xp⟩ := x
        simp only at e1 htx
        have X1 := Lib.hid e1
        clear hx e1
        by_cases h3 : xt = ⟨#[125]⟩
        case neg =>
          have hr3 := txt_lit (l := [125]) h3
          have GE : Hid (nesG L n (rdS L n r) 2 i left = (blkG L n (rdS L n r) j lf).bind fun e i3 => .ok (.mk 2 ⟨#[]⟩ t bl e.1, e.2) i3) := Lib.hid (by rw [GD.out, elsG_blk (fun h => h3 (htx ▸ h.2.2))])
          clear GD h1 h2 h3 htx
          refine wp_region_later (by kernel_rfl) (by kernel_rfl) ?_
          intro gw hgw hcw
          have HG := Lib.hid hgw
          have HC := Lib.hid hcw
          clear hgw hcw
          have P := Lib.hid (fun m' => (E8.out.rd.below (HG.out m')).cs)
          have p0 : ∀ m', (gw m').cell? ⟨rb, 0, none⟩ = some (.slice (some ⟨bx, ox, none⟩) L.length c) := fun m' => (P.out m').1
          have p2 : ∀ m', (gw m').cell? ⟨rb, 2, none⟩ = some (.int .i64 (j : Int)) := fun m' => (P.out m').2.2.1
          have e1 : ∀ m', (gw m').cell? ⟨bx, ox + (j + 1) * 3 + 1, none⟩ = some (.string xt) := fun m' => cell_keep (HG.out m') X1.out
          repeat (go_big_quiet_step ((first | (go_at_call 32; exact later_of HC (rd_next _ rb (some ⟨bx, ox, none⟩) c n j L 0 0 (E8.out.rd.below (HG.out _)))))))
          refine wpQuiet_nil ?_
          intro _ hw'
          obtain ⟨nq, hw''⟩ := hw'
          subst hw''
          clear p0 p2 P
          rename Later _ => mm
          have E9 := Lib.hid (E8.out.below (HG.out mm))
          have K9 : Hid (KeepM rb mb w (gw mm)) := Lib.hid (K8.out.trans' (KeepM.of_below (HG.out mm)))
          have V89 : Hid ((gw mm).heap[g8]? = some (.cells #[.int .i64 0, .string ⟨#[]⟩, .int .i64 0, .int .i64 0, .string ⟨#[]⟩, .slice none 0 0, .slice none 0 0, .slice none 0 0] 67 (0, 0))) := Lib.hid (((HG.out mm).block g8 (lt_of_block V88.out)).trans V88.out)
          have V109 : Hid ((gw mm).heap[g10]? = some (.cells #[.int .i64 2, .string ⟨#[]⟩, .int .i64 ty, .int .i64 tn, .string ts, .slice tA tm tc, .slice A5 bl.length e5c, .slice none 0 0] 67 (0, 0))) := Lib.hid (((HG.out mm).block g10 (lt_of_block V108.out)).trans V108.out)
          have T9 := Lib.hid (T8.out.belowO (fun b hb => by have := hb.2; have := S8.out; omega) (HG.out mm))
          have RW9 := Lib.hid (RW8.out.belowO (fun b hb => by have := hb.2; have := S8.out; omega) (HG.out mm))
          have S9 : Hid (w5.heap.size ≤ (gw mm).heap.size) := Lib.hid (by have := (HG.out mm).size; have := S8.out; omega)
          have R9 := Lib.hid E9.out.rd
          have M9 := Lib.hid E9.out.many
          generalize gw mm = w9 at *
          go_upto_region 16 with fail
          go_wp2_with fail
          refine (IH.out (d + 1) W0 w9 rb mb (some ⟨bx, ox, none⟩) c n j L m5 lf HD.out E9.out hm5).mono ?_
          intro e w10 hret
          generalize blkG L n (rdS L n r) j lf = g at *
          cases g with
          | bad fc fp =>
            obtain ⟨k10, q10, m10, rfl, r10, mm10⟩ := hret
            have K10 : Hid (KeepM rb mb w w10) := Lib.hid (K9.out.trans' k10)
            have V8a : Hid (w10.heap[g8]? = some (.cells #[.int .i64 0, .string ⟨#[]⟩, .int .i64 0, .int .i64 0, .string ⟨#[]⟩, .slice none 0 0, .slice none 0 0, .slice none 0 0] 67 (0, 0))) := Lib.hid ((k10.block g8 (lt_of_block V89.out) ⟨hn3, hn7⟩).trans V89.out)
            have V10a : Hid (w10.heap[g10]? = some (.cells #[.int .i64 2, .string ⟨#[]⟩, .int .i64 ty, .int .i64 tn, .string ts, .slice tA tm tc, .slice A5 bl.length e5c, .slice none 0 0] 67 (0, 0))) := Lib.hid ((k10.block g10 (lt_of_block V109.out) ⟨hn5, hn8⟩).trans V109.out)
            have R11 := Lib.hid (r10.setg hn5 HA10.out 7 (.slice none 0 0))
            have M11 := Lib.hid (mm10.set (o := 7) hn8 (.slice none 0 0))
            have K11 : Hid (KeepM rb mb w (w10.setCell ⟨g10, 7, none⟩ (.slice none 0 0))) := Lib.hid (K10.out.setg (by have := HG10.out; omega) _)
            have V8b : Hid ((w10.setCell ⟨g10, 7, none⟩ (.slice none 0 0)).heap[g8]? = some (.cells #[.int .i64 0, .string ⟨#[]⟩, .int .i64 0, .int .i64 0, .string ⟨#[]⟩, .slice none 0 0, .slice none 0 0, .slice none 0 0] 67 (0, 0))) := Lib.hid ((Below.heap_setCell w10 ⟨g10, 7, none⟩ _ g8 hn1).trans V8a.out)
            have V10b : Hid ((w10.setCell ⟨g10, 7, none⟩ (.slice none 0 0)).heap[g10]? = some (.cells #[.int .i64 2, .string ⟨#[]⟩, .int .i64 ty, .int .i64 tn, .string ts, .slice tA tm tc, .slice A5 bl.length e5c, .slice none 0 0] 67 (0, 0))) := Lib.hid (s8_7 V10a.out _)
            have G2 : Hid (nesG L n (rdS L n r) 2 i left = .bad fc fp) := Lib.hid (by rw [GE.out]; rfl)
            clear k10 r10 mm10
            obtain ⟨⟨c0, c1, c2, c3, c4, c5, c6, c7⟩, f0, f1, f2, f3, f4, f5, f6, f7⟩ := cells8R V10a.out
            have hz10 := lt_of_block V10a.out
            go_upto_region 17 with fail
            generalize (w10.setCell ⟨g10, 7, none⟩ (.slice none 0 0)) = w11 at *
            clear c0 c1 c2 c3 c4 c5 c6 c7 f0 f1 f2 f3 f4 f5 f6 f7 hz10
            obtain ⟨⟨c0, c1, c2, c3, c4, c5, c6, c7⟩, f0, f1, f2, f3, f4, f5, f6, f7⟩ := cells8R V8b.out
            obtain ⟨⟨a0, a1, a2, a3, a4, a5, a6, a7⟩, _⟩ := cells8R V10b.out
            have hz8 := lt_of_block V8b.out
            have hz10 := lt_of_block V10b.out
            go_wp2_with fail
            refine bodyPost_ret (v := .tuple #[.agg #[.int .i64 2, .string ⟨#[]⟩, .int .i64 ty, .int .i64 tn, .string ts, .slice tA tm tc, .slice A5 bl.length e5c, .slice none 0 0], .bool false]) (by simp [results, Tryd.results70, go_sem, c0, c1, c2, c3, c4, c5, c6, c7]) rfl ?_
            rw [G2.out]
            exact finB ⟨2, ⟨#[]⟩, ty, tn, ts, tA, tm, tc, A5, bl.length, e5c, none, 0, 0⟩ HG8.out K11.out R11.out M11.out EE.out.as EE.out.lts.1 EE.out.lts.2
          | ok b q10 =>
            obtain ⟨el, lf2⟩ := b
            obtain ⟨k10, A10, c10, m10, rfl, hl10, hl11, row10, r10, hm10, mm10⟩ := hret
            simp only at hl10 row10 hm10
            have K10 : Hid (KeepM rb mb w w10) := Lib.hid (K9.out.trans' k10)
            have V8a : Hid (w10.heap[g8]? = some (.cells #[.int .i64 0, .string ⟨#[]⟩, .int .i64 0, .int .i64 0, .string ⟨#[]⟩, .slice none 0 0, .slice none 0 0, .slice none 0 0] 67 (0, 0))) := Lib.hid ((k10.block g8 (lt_of_block V89.out) ⟨hn3, hn7⟩).trans V89.out)
            have V10a : Hid (w10.heap[g10]? = some (.cells #[.int .i64 2, .string ⟨#[]⟩, .int .i64 ty, .int .i64 tn, .string ts, .slice tA tm tc, .slice A5 bl.length e5c, .slice none 0 0] 67 (0, 0))) := Lib.hid ((k10.block g10 (lt_of_block V109.out) ⟨hn5, hn8⟩).trans V109.out)
            have R11 := Lib.hid (r10.setg hn5 HA10.out 7 (.slice A10 el.length c10))
            have M11 := Lib.hid (mm10.set (o := 7) hn8 (.slice A10 el.length c10))
            have K11 : Hid (KeepM rb mb w (w10.setCell ⟨g10, 7, none⟩ (.slice A10 el.length c10))) := Lib.hid (K10.out.setg (by have := HG10.out; omega) _)
            have V8b : Hid ((w10.setCell ⟨g10, 7, none⟩ (.slice A10 el.length c10)).heap[g8]? = some (.cells #[.int .i64 0, .string ⟨#[]⟩, .int .i64 0, .int .i64 0, .string ⟨#[]⟩, .slice none 0 0, .slice none 0 0, .slice none 0 0] 67 (0, 0))) := Lib.hid ((Below.heap_setCell w10 ⟨g10, 7, none⟩ _ g8 hn1).trans V8a.out)
            have V10b : Hid ((w10.setCell ⟨g10, 7, none⟩ (.slice A10 el.length c10)).heap[g10]? = some (.cells #[.int .i64 2, .string ⟨#[]⟩, .int .i64 ty, .int .i64 tn, .string ts, .slice tA tm tc, .slice A5 bl.length e5c, .slice A10 el.length c10] 67 (0, 0))) := Lib.hid (s8_7 V10a.out _)
            have h910 := k10.size
            have T11 := Lib.hid ((T9.out.keep fun b hb => k10.block b (by have := hb.2; have := SD.out; have := S5.out; have := S9.out; omega) ⟨by have := hb.1; have := S3.out; omega, by have := hb.1; have := S3.out; omega⟩).set (p := ⟨g10, 7, none⟩) (fun h => by have h1 : wb.heap.size ≤ g10 := h.1; have := S3.out; omega) (.slice A10 el.length c10))
            have RW11 := Lib.hid ((RW9.out.keep fun b hb => k10.block b (by have := hb.2; have := S9.out; omega) ⟨by have := hb.1; have := SD.out; omega, by have := hb.1; have := SD.out; omega⟩).set (p := ⟨g10, 7, none⟩) (fun h => by have h1 : wd.heap.size ≤ g10 := h.1; have := SD.out; omega) (.slice A10 el.length c10))
            have RX11 := Lib.hid (row10.set (p := ⟨g10, 7, none⟩) (fun h => by have h1 : w9.heap.size ≤ g10 := h.1; have := S9.out; have := S5.out; have := SD.out; omega) (.slice A10 el.length c10))
            have S11 : Hid ((w10.setCell ⟨g10, 7, none⟩ (.slice A10 el.length c10)).heap.size = w10.heap.size ∧ w9.heap.size ≤ w10.heap.size) := Lib.hid ⟨by simp, h910⟩
            have G2 : Hid (nesG L n (rdS L n r) 2 i left = .ok (.mk 2 ⟨#[]⟩ t bl el, lf2) q10) := Lib.hid (by rw [GE.out]; rfl)
            clear k10 r10 mm10 row10 h910
            obtain ⟨⟨c0, c1, c2, c3, c4, c5, c6, c7⟩, f0, f1, f2, f3, f4, f5, f6, f7⟩ := cells8R V10a.out
            have hz10 := lt_of_block V10a.out
            go_upto_region 17 with fail
            generalize (w10.setCell ⟨g10, 7, none⟩ (.slice A10 el.length c10)) = w11 at *
            clear c0 c1 c2 c3 c4 c5 c6 c7 f0 f1 f2 f3 f4 f5 f6 f7 hz10
            obtain ⟨⟨c0, c1, c2, c3, c4, c5, c6, c7⟩, f0, f1, f2, f3, f4, f5, f6, f7⟩ := cells8R V8b.out
            obtain ⟨⟨a0, a1, a2, a3, a4, a5, a6, a7⟩, _⟩ := cells8R V10b.out
            have hz8 := lt_of_block V8b.out
            have hz10 := lt_of_block V10b.out
            go_wp2_with fail
            refine bodyPost_ret (v := .tuple #[.agg #[.int .i64 2, .string ⟨#[]⟩, .int .i64 ty, .int .i64 tn, .string ts, .slice tA tm tc, .slice A5 bl.length e5c, .slice A10 el.length c10], .bool true]) (by simp [results, Tryd.results70, go_sem, c0, c1, c2, c3, c4, c5, c6, c7]) rfl ?_
            rw [G2.out]
            exact finO (F := fun b => Made wb w3 b ∨ Made wd w5 b ∨ Made w9 w10 b) ⟨2, ⟨#[]⟩, ty, tn, ts, tA, tm, tc, A5, bl.length, e5c, A10, el.length, c10⟩ HG8.out K11.out R11.out M11.out EE.out.as EE.out.lts.1 EE.out.lts.2 (StO.mk' (T := Made wb w3) (B := Made wd w5) (E := Made w9 w10) (show i64in 2 from by unfold i64in; omega) (Nat.zero_le _) T11.out rfl hl1 hl2 RW11.out rfl hl10 hl11 RX11.out (fun _ h => .inl h) (fun _ h => .inr (.inl h)) (fun _ h => .inr (.inr h)) (fun b h1 h2 => by have := h1.2; have := h2.1; have := SD.out; omega) (fun b h1 h2 => by have := h1.2; have := h2.1; have := SD.out; have := S5.out; have := S9.out; omega) (fun b h1 h2 => by have := h1.2; have := h2.1; have := S9.out; omega)) (fun b h => by rcases h with h | h | h; all_goals (have h1 := h.1; have h2 := h.2; have := S3.out; have := SD.out; have := S5.out; have := S9.out; have := S11.out; have := HG8.out; constructor <;> omega)) hm10
        have hr3 := txt_lity (l := [125]) h3
        have G2 : Hid (nesG L n (rdS L n r) 2 i left = .bad 3 (posAt L n (j + 1))) := Lib.hid (by rw [GD.out, elsG_bad h1 (htx.trans h3)]; rfl)
        clear GD h1 h2 h3 htx
        refine wp_region_later (by kernel_rfl) (by kernel_rfl) ?_
        intro gw hgw hcw
        have HG := Lib.hid hgw
        have HC := Lib.hid hcw
        clear hgw hcw
        have P := Lib.hid (fun m' => (E8.out.rd.below (HG.out m')).cs)
        have p0 : ∀ m', (gw m').cell? ⟨rb, 0, none⟩ = some (.slice (some ⟨bx, ox, none⟩) L.length c) := fun m' => (P.out m').1
        have p2 : ∀ m', (gw m').cell? ⟨rb, 2, none⟩ = some (.int .i64 (j : Int)) := fun m' => (P.out m').2.2.1
        have e1 : ∀ m', (gw m').cell? ⟨bx, ox + (j + 1) * 3 + 1, none⟩ = some (.string xt) := fun m' => cell_keep (HG.out m') X1.out
        repeat (go_big_quiet_step ((first | (go_at_call 32; exact later_of HC (rd_next _ rb (some ⟨bx, ox, none⟩) c n j L 0 0 (E8.out.rd.below (HG.out _)))))))
        refine wpQuiet_nil ?_
        intro _ hw'
        obtain ⟨nq, hw''⟩ := hw'
        subst hw''
        clear p0 p2 P
        rename Later _ => mm
        have E9 := Lib.hid (E8.out.below (HG.out mm))
        have K9 : Hid (KeepM rb mb w (gw mm)) := Lib.hid (K8.out.trans' (KeepM.of_below (HG.out mm)))
        have V89 : Hid ((gw mm).heap[g8]? = some (.cells #[.int .i64 0, .string ⟨#[]⟩, .int .i64 0, .int .i64 0, .string ⟨#[]⟩, .slice none 0 0, .slice none 0 0, .slice none 0 0] 67 (0, 0))) := Lib.hid (((HG.out mm).block g8 (lt_of_block V88.out)).trans V88.out)
        have V109 : Hid ((gw mm).heap[g10]? = some (.cells #[.int .i64 2, .string ⟨#[]⟩, .int .i64 ty, .int .i64 tn, .string ts, .slice tA tm tc, .slice A5 bl.length e5c, .slice none 0 0] 67 (0, 0))) := Lib.hid (((HG.out mm).block g10 (lt_of_block V108.out)).trans V108.out)
        have T9 := Lib.hid (T8.out.belowO (fun b hb => by have := hb.2; have := S8.out; omega) (HG.out mm))
        have RW9 := Lib.hid (RW8.out.belowO (fun b hb => by have := hb.2; have := S8.out; omega) (HG.out mm))
        have S9 : Hid (w5.heap.size ≤ (gw mm).heap.size) := Lib.hid (by have := (HG.out mm).size; have := S8.out; omega)
        have R9 := Lib.hid E9.out.rd
        have M9 := Lib.hid E9.out.many
        generalize gw mm = w9 at *
        have E10 := Lib.hid (E9.out.at1 (by omega))
        have K10 : Hid (KeepM rb mb w (w9.setCell ⟨rb, 2, none⟩ (.int .i64 ((j : Int) + 1)))) := Lib.hid (K9.out.setCell (p := ⟨rb, 2, none⟩) (by simp) _)
        have V8a : Hid ((w9.setCell ⟨rb, 2, none⟩ (.int .i64 ((j : Int) + 1))).heap[g8]? = some (.cells #[.int .i64 0, .string ⟨#[]⟩, .int .i64 0, .int .i64 0, .string ⟨#[]⟩, .slice none 0 0, .slice none 0 0, .slice none 0 0] 67 (0, 0))) := Lib.hid ((Below.heap_setCell w9 ⟨rb, 2, none⟩ _ g8 hn3).trans V89.out)
        obtain ⟨_, _, p2, _, _⟩ := R9.out.cs
        have fr2 := R9.out.fz 2
        have hrl := R9.out.lt
        go_wp2_with fail
        generalize w9.setCell ⟨rb, 2, none⟩ (.int .i64 ((j : Int) + 1)) = w10 at *
        clear p2 fr2 hrl
        refine (rd_fail 3 _ rb _ c n (j + 1) L 0 E10.out.rd).mono ?_
        rintro e w11 ⟨rfl, r11, k11⟩
        have R11 := Lib.hid r11
        have K11 : Hid (KeepM rb mb w w11) := Lib.hid (K10.out.trans' (KeepM.of_r k11))
        have M11 := Lib.hid (E10.out.many.keepR k11 EE.out.ne)
        have V8f : Hid (w11.heap[g8]? = some (.cells #[.int .i64 0, .string ⟨#[]⟩, .int .i64 0, .int .i64 0, .string ⟨#[]⟩, .slice none 0 0, .slice none 0 0, .slice none 0 0] 67 (0, 0))) := Lib.hid ((k11.block g8 (lt_of_block V8a.out) hn3).trans V8a.out)
        clear r11 k11
        obtain ⟨⟨c0, c1, c2, c3, c4, c5, c6, c7⟩, f0, f1, f2, f3, f4, f5, f6, f7⟩ := cells8R V8f.out
        go_wp2_with fail
        refine bodyPost_ret (v := .tuple #[.agg #[.int .i64 0, .string ⟨#[]⟩, .int .i64 0, .int .i64 0, .string ⟨#[]⟩, .slice none 0 0, .slice none 0 0, .slice none 0 0], .bool false]) (by simp [results, Tryd.results70, go_sem, c0, c1, c2, c3, c4, c5, c6, c7]) rfl ?_
        rw [G2.out]
        exact finB ⟨0, ⟨#[]⟩, 0, 0, ⟨#[]⟩, none, 0, 0, none, 0, 0, none, 0, 0⟩ HG8.out K11.out R11.out M11.out EE.out.as EE.out.lts.1 EE.out.lts.2
      · -- while
        have SE : Hid (w5.heap.size ≤ w6.heap.size) := Lib.hid (by have := S6.out; omega)
        have R6 := Lib.hid E6.out.rd
        have M6 := Lib.hid E6.out.many
        have G2 : Hid (nesG L n (rdS L n r) 3 i left = .ok (.mk 3 ⟨#[]⟩ t bl [], lf) q5) := Lib.hid (by rw [GC.out, if_pos (.inl rfl)])
        obtain ⟨⟨c0, c1, c2, c3, c4, c5, c6, c7⟩, f0, f1, f2, f3, f4, f5, f6, f7⟩ := cells8R V8e.out
        obtain ⟨⟨a0, a1, a2, a3, a4, a5, a6, a7⟩, _⟩ := cells8R V10e.out
        have hz8 := lt_of_block V8e.out
        have hz10 := lt_of_block V10e.out
        go_wp2_with fail
        refine bodyPost_ret (v := .tuple #[.agg #[.int .i64 3, .string ⟨#[]⟩, .int .i64 ty, .int .i64 tn, .string ts, .slice tA tm tc, .slice A5 bl.length e5c, .slice none 0 0], .bool true]) (by simp [results, Tryd.results70, go_sem, c0, c1, c2, c3, c4, c5, c6, c7]) rfl ?_
        rw [G2.out]
        exact finO (F := fun b => Made wb w3 b ∨ Made wd w5 b) ⟨3, ⟨#[]⟩, ty, tn, ts, tA, tm, tc, A5, bl.length, e5c, none, 0, 0⟩ HG8.out K6.out R6.out M6.out EE.out.as EE.out.lts.1 EE.out.lts.2 (StO.mk' (T := Made wb w3) (B := Made wd w5) (E := fun _ => False) (show i64in 3 from by unfold i64in; omega) (Nat.zero_le _) T6.out rfl hl1 hl2 RW6.out rfl (Nat.le_refl _) (Nat.zero_le _) stRowO_nilR (fun _ h => .inl h) (fun _ h => .inr h) (fun _ h => h.elim) (fun b h1 h2 => by have := h1.2; have := h2.1; have := SD.out; omega) (fun _ _ h => h) (fun _ _ h => h)) (fun b h => by rcases h with h | h; all_goals (have h1 := h.1; have h2 := h.2; have := S3.out; have := SD.out; have := S5.out; have := SE.out; have := HG8.out; constructor <;> omega)) hm5
end Go.Proofs.YtdanlgmpgdipnaaDoor
