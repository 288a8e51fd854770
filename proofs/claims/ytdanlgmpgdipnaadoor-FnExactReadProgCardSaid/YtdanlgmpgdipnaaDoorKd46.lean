/- Several texts in one: RdSt2. -/
import Derived.Test.YtdanlgmpgdipnaaDoorKd27
import Derived.Test.YtdanlgmpgdipnaaDoorKd28
namespace Go.Proofs.YtdanlgmpgdipnaaDoor
open Go.RowKit
set_option linter.unusedVariables false


set_option maxHeartbeats 3200000 in
set_option maxRecDepth 100000 in
theorem rd_stmt_set (rec : Nat → Nat → Got (List St × Nat)) (d : Int) (W0 w : World) (rb mb : Nat) (A : Option Addr) (c n i : Nat) (L : List Sg) (m left : Nat) (ee : EnvR W0 w rb mb A c n i L m) (hml : m + left = 60) (hnm : nmB L i = true) :
    Calls Tryd.prog 67 #[.pointer (some ⟨rb, 0, none⟩), .int .i64 1, .int .i64 d, .pointer (some ⟨mb, 0, none⟩)] w fun e w' => GotS1 w w' rb mb A c n L (oneG L n rec 1 i left) e := by
  have HNM := Lib.hid hnm
  have hlt := there_n hnm
  have HSZ := Lib.hid (name_sz hnm)
  clear hnm
  have EE := Lib.hid ee
  have hrb := ee.lts.1
  have hmb := ee.lts.2
  have hi6 := ee.rd.hi
  have hL6 := ee.rd.hL
  clear ee
  go_enter Tryd.func67, Tryd.ntmps67
  have BA : Hid (Below w.heap.size w ((w.alloc (.cells #[.int .i64 0, .string ByteArray.empty, .int .i64 0, .int .i64 0, .string ByteArray.empty, .slice none 0 0, .slice none 0 0, .slice none 0 0] 67)).alloc (.cells #[.int .i64 1, .string ⟨#[]⟩, .int .i64 0, .int .i64 0, .string ⟨#[]⟩, .slice none 0 0, .slice none 0 0, .slice none 0 0] 67))) := Lib.hid (Below.alloc (Below.alloc (Below.refl _ _) (Nat.le_refl _) _) (by simp) _)
  have VA8 : Hid (((w.alloc (.cells #[.int .i64 0, .string ByteArray.empty, .int .i64 0, .int .i64 0, .string ByteArray.empty, .slice none 0 0, .slice none 0 0, .slice none 0 0] 67)).alloc (.cells #[.int .i64 1, .string ⟨#[]⟩, .int .i64 0, .int .i64 0, .string ⟨#[]⟩, .slice none 0 0, .slice none 0 0, .slice none 0 0] 67)).heap[w.heap.size]? = some (.cells #[.int .i64 0, .string ⟨#[]⟩, .int .i64 0, .int .i64 0, .string ⟨#[]⟩, .slice none 0 0, .slice none 0 0, .slice none 0 0] 67 (0, 0))) := Lib.hid ((heap_alloc_lt (by simp)).trans (heap_alloc_new _ _))
  have VA10 : Hid (((w.alloc (.cells #[.int .i64 0, .string ByteArray.empty, .int .i64 0, .int .i64 0, .string ByteArray.empty, .slice none 0 0, .slice none 0 0, .slice none 0 0] 67)).alloc (.cells #[.int .i64 1, .string ⟨#[]⟩, .int .i64 0, .int .i64 0, .string ⟨#[]⟩, .slice none 0 0, .slice none 0 0, .slice none 0 0] 67)).heap[w.heap.size + 1]? = some (.cells #[.int .i64 1, .string ⟨#[]⟩, .int .i64 0, .int .i64 0, .string ⟨#[]⟩, .slice none 0 0, .slice none 0 0, .slice none 0 0] 67 (0, 0))) := Lib.hid (by have := heap_alloc_new (w.alloc (.cells #[.int .i64 0, .string ByteArray.empty, .int .i64 0, .int .i64 0, .string ByteArray.empty, .slice none 0 0, .slice none 0 0, .slice none 0 0] 67)) (.cells #[.int .i64 1, .string ⟨#[]⟩, .int .i64 0, .int .i64 0, .string ⟨#[]⟩, .slice none 0 0, .slice none 0 0, .slice none 0 0] 67); simpa using this)
  go_wp2_with fail
  obtain ⟨wa, hwa⟩ : ∃ wa, ((w.alloc (.cells #[.int .i64 0, .string ByteArray.empty, .int .i64 0, .int .i64 0, .string ByteArray.empty, .slice none 0 0, .slice none 0 0, .slice none 0 0] 67)).alloc (.cells #[.int .i64 1, .string ⟨#[]⟩, .int .i64 0, .int .i64 0, .string ⟨#[]⟩, .slice none 0 0, .slice none 0 0, .slice none 0 0] 67)) = wa := ⟨_, rfl⟩
  have hza : wa.heap.size = w.heap.size + 2 := by rw [← hwa]; simp
  have hwa2 : ((w.alloc (.cells #[.int .i64 0, .string ⟨#[]⟩, .int .i64 0, .int .i64 0, .string ⟨#[]⟩, .slice none 0 0, .slice none 0 0, .slice none 0 0] 67)).alloc (.cells #[.int .i64 1, .string ⟨#[]⟩, .int .i64 0, .int .i64 0, .string ⟨#[]⟩, .slice none 0 0, .slice none 0 0, .slice none 0 0] 67)) = wa := hwa
  (try first | rw [hwa] | rw [hwa2])
  rw [hwa] at BA VA8 VA10
  clear hwa hwa2
  have EA := Lib.hid (EE.out.below BA.out)
  have KA : Hid (KeepM rb mb w wa) := Lib.hid (KeepM.of_below BA.out)
  obtain ⟨g8, hg8⟩ : ∃ g, w.heap.size = g := ⟨_, rfl⟩
  obtain ⟨g10, hg10⟩ : ∃ g, w.heap.size + 1 = g := ⟨_, rfl⟩
  have HG8 := Lib.hid hg8
  have HG10 := Lib.hid hg10
  have hn1 : ¬ g8 = g10 := by omega
  have hn2 : ¬ g10 = g8 := by omega
  have hn3 : ¬ g8 = rb := by omega
  have hn4 : ¬ rb = g8 := by omega
  have hn5 : ¬ g10 = rb := by omega
  have hn6 : ¬ rb = g10 := by omega
  have hn7 : ¬ g8 = mb := by omega
  have hn8 : ¬ g10 = mb := by omega
  have hlt10 : g10 < wa.heap.size := by omega
  have hlt8 : g8 < wa.heap.size := by omega
  have HA8 : Hid (∀ b o, A = some ⟨b, o, none⟩ → b ≠ g8) := Lib.hid (fun b o e => by have := EE.out.as b o e; omega)
  have HA10 : Hid (∀ b o, A = some ⟨b, o, none⟩ → b ≠ g10) := Lib.hid (fun b o e => by have := EE.out.as b o e; omega)
  have HW10 : Hid (W0.heap.size ≤ g10) := Lib.hid (by have := EE.out.base.size; omega)
  rw [hg8] at VA8
  rw [hg10] at VA10
  (try rw [hg10])
  (try rw [hg8])
  clear hg8 hg10
  refine (rd_takeName _ rb A c n i L 0 EA.out.rd).mono ?_
  rintro e w1 ⟨k1, hret⟩
  have K1 : Hid (KeepM rb mb w w1) := Lib.hid (KA.out.trans' (KeepM.of_r k1))
  have V8 : Hid (w1.heap[g8]? = some (.cells #[.int .i64 0, .string ⟨#[]⟩, .int .i64 0, .int .i64 0, .string ⟨#[]⟩, .slice none 0 0, .slice none 0 0, .slice none 0 0] 67 (0, 0))) := Lib.hid ((k1.block g8 (by omega) hn3).trans VA8.out)
  have V10 : Hid (w1.heap[g10]? = some (.cells #[.int .i64 1, .string ⟨#[]⟩, .int .i64 0, .int .i64 0, .string ⟨#[]⟩, .slice none 0 0, .slice none 0 0, .slice none 0 0] 67 (0, 0))) := Lib.hid ((k1.block g10 (by omega) hn5).trans VA10.out)
  have M1 := Lib.hid (EA.out.many.keepR k1 EE.out.ne)
  have S1 := Lib.hid k1.size
  have KR1 : Hid (KeepM rb mb wa w1) := Lib.hid (KeepM.of_r k1)
  clear k1
  rcases hret with ⟨_, rfl, r1⟩ | ⟨hno, _, _⟩
  case inr => rw [HNM.out] at hno; cases hno
  have E1 := Lib.hid (EA.out.step KR1.out r1 M1.out)
  clear r1
  obtain ⟨T, hT⟩ : ∃ T, tx L i = T := ⟨_, rfl⟩
  have HT := Lib.hid hT
  rw [hT] at HSZ ⊢
  clear hT
  obtain ⟨⟨c0, c1, c2, c3, c4, c5, c6, c7⟩, f0, f1, f2, f3, f4, f5, f6, f7⟩ := cells8R V10.out
  have hz10 := lt_of_block V10.out
  have E1b : Hid (EnvR W0 (w1.setCell ⟨g10, 1, none⟩ (.string T)) rb mb A c n (i + 1) L m) := Lib.hid (E1.out.setg hn5 hn8 HA10.out HW10.out 1 (.string T))
  have K1b : Hid (KeepM rb mb w (w1.setCell ⟨g10, 1, none⟩ (.string T))) := Lib.hid (K1.out.setg (by have := HG10.out; omega) _)
  have V8b : Hid ((w1.setCell ⟨g10, 1, none⟩ (.string T)).heap[g8]? = some (.cells #[.int .i64 0, .string ⟨#[]⟩, .int .i64 0, .int .i64 0, .string ⟨#[]⟩, .slice none 0 0, .slice none 0 0, .slice none 0 0] 67 (0, 0))) := Lib.hid ((Below.heap_setCell w1 ⟨g10, 1, none⟩ _ g8 hn1).trans V8.out)
  have V10b : Hid ((w1.setCell ⟨g10, 1, none⟩ (.string T)).heap[g10]? = some (.cells #[.int .i64 1, .string T, .int .i64 0, .int .i64 0, .string ⟨#[]⟩, .slice none 0 0, .slice none 0 0, .slice none 0 0] 67 (0, 0))) := Lib.hid (s8_1 V10.out _)
  have S1b : Hid (wa.heap.size ≤ (w1.setCell ⟨g10, 1, none⟩ (.string T)).heap.size) := Lib.hid (by have := S1.out; simpa using this)
  clear V8 V10 E1 K1 M1 S1 KR1
  go_wp2_with fail
  obtain ⟨wb, hwb⟩ : ∃ wb, w1.setCell ⟨g10, 1, none⟩ (.string T) = wb := ⟨_, rfl⟩
  rw [hwb] at E1b K1b V8b V10b S1b ⊢
  clear hwb c0 c1 c2 c3 c4 c5 c6 c7 f0 f1 f2 f3 f4 f5 f6 f7
  refine (rd_take ⟨#[61]⟩ _ rb A c n (i + 1) L 0 E1b.out.rd (by decide)).mono ?_
  rintro e w2 ⟨k2, hret⟩
  have K2 : Hid (KeepM rb mb w w2) := Lib.hid (K1b.out.trans' (KeepM.of_r k2))
  have KR2 : Hid (KeepM rb mb wb w2) := Lib.hid (KeepM.of_r k2)
  have V8 : Hid (w2.heap[g8]? = some (.cells #[.int .i64 0, .string ⟨#[]⟩, .int .i64 0, .int .i64 0, .string ⟨#[]⟩, .slice none 0 0, .slice none 0 0, .slice none 0 0] 67 (0, 0))) := Lib.hid ((k2.block g8 (lt_of_block V8b.out) hn3).trans V8b.out)
  have V10 : Hid (w2.heap[g10]? = some (.cells #[.int .i64 1, .string T, .int .i64 0, .int .i64 0, .string ⟨#[]⟩, .slice none 0 0, .slice none 0 0, .slice none 0 0] 67 (0, 0))) := Lib.hid ((k2.block g10 (lt_of_block V10b.out) hn5).trans V10b.out)
  have M2 := Lib.hid (E1b.out.many.keepR k2 EE.out.ne)
  have S2 : Hid (wa.heap.size ≤ w2.heap.size) := Lib.hid (by have := k2.size; have := S1b.out; omega)
  clear k2 V8b V10b S1b
  rcases hret with ⟨ht2, rfl, r2⟩ | ⟨ht2, rfl, r2⟩
  case inr =>
    have R2 := Lib.hid r2
    have G2 : Hid (oneG L n rec 1 i left = .bad 3 (posAt L n (i + 1))) := Lib.hid (by rw [oneG_set, tk_bad ht2]; rfl)
    clear r2 ht2
    obtain ⟨⟨c0, c1, c2, c3, c4, c5, c6, c7⟩, f0, f1, f2, f3, f4, f5, f6, f7⟩ := cells8R V8.out
    go_wp2_with fail
    refine bodyPost_ret (v := .tuple #[.agg #[.int .i64 0, .string ⟨#[]⟩, .int .i64 0, .int .i64 0, .string ⟨#[]⟩, .slice none 0 0, .slice none 0 0, .slice none 0 0], .bool false]) (by simp [results, Tryd.results67, go_sem, c0, c1, c2, c3, c4, c5, c6, c7]) rfl ?_
    rw [G2.out]
    exact finB ⟨0, ⟨#[]⟩, 0, 0, ⟨#[]⟩, none, 0, 0, none, 0, 0, none, 0, 0⟩ HG8.out K2.out R2.out M2.out EE.out.as EE.out.lts.1 EE.out.lts.2
  have E2 := Lib.hid (E1b.out.step KR2.out r2 M2.out)
  have GA : Hid (oneG L n rec 1 i left = (rdT L n 6 (i + 1 + 1)).bind fun t i2 => (tk L n ⟨#[59]⟩ i2).bind fun _ i3 => .ok (.mk 1 T t [] [], left) i3) := Lib.hid (by rw [oneG_set, tk_ok ht2, bind_ok, HT.out])
  clear r2 ht2 M2 KR2
  go_wp2_with fail
  have hcl := rd_term_all 6 (Nat.le_refl _) W0 w2 rb A c n (i + 1 + 1) L E2.out.tab E2.out.base E2.out.hr E2.out.as E2.out.rd
  rw [show (6 - ((6 : Nat) : Int)) = 0 from rfl] at hcl
  refine hcl.mono ?_
  clear hcl
  intro e w3 hret
  have k3 := hret.1
  have K3 : Hid (KeepM rb mb w w3) := Lib.hid (K2.out.trans' (KeepM.of_r k3))
  have KR3 : Hid (KeepM rb mb w2 w3) := Lib.hid (KeepM.of_r k3)
  have V8c : Hid (w3.heap[g8]? = some (.cells #[.int .i64 0, .string ⟨#[]⟩, .int .i64 0, .int .i64 0, .string ⟨#[]⟩, .slice none 0 0, .slice none 0 0, .slice none 0 0] 67 (0, 0))) := Lib.hid ((k3.block g8 (lt_of_block V8.out) hn3).trans V8.out)
  have V10c : Hid (w3.heap[g10]? = some (.cells #[.int .i64 1, .string T, .int .i64 0, .int .i64 0, .string ⟨#[]⟩, .slice none 0 0, .slice none 0 0, .slice none 0 0] 67 (0, 0))) := Lib.hid ((k3.block g10 (lt_of_block V10.out) hn5).trans V10.out)
  have M3 := Lib.hid (E2.out.many.keepR k3 EE.out.ne)
  have S3 : Hid (w2.heap.size ≤ w3.heap.size) := Lib.hid k3.size
  clear k3 V8 V10
  obtain ⟨⟨c0, c1, c2, c3, c4, c5, c6, c7⟩, f0, f1, f2, f3, f4, f5, f6, f7⟩ := cells8R V10c.out
  have hz10c := lt_of_block V10c.out
  generalize rdT L n 6 (i + 1 + 1) = g at *
  cases g with
  | bad fc fp =>
    obtain ⟨_, q, rfl, r3⟩ := hret.bad
    have R3 := Lib.hid r3
    have G2 : Hid (oneG L n rec 1 i left = .bad fc fp) := Lib.hid (by rw [GA.out]; rfl)
    clear r3 hret
    have K4 : Hid (KeepM rb mb w ((((w3.setCell ⟨g10, 2, none⟩ (.int .i64 0)).setCell ⟨g10, 3, none⟩ (.int .i64 0)).setCell ⟨g10, 4, none⟩ (.string ⟨#[]⟩)).setCell ⟨g10, 5, none⟩ (.slice none 0 0))) := Lib.hid ((((K3.out.setg (by have := HG10.out; omega) _).setg (by have := HG10.out; omega) _).setg (by have := HG10.out; omega) _).setg (by have := HG10.out; omega) _)
    have R4 := Lib.hid ((((R3.out.setg hn5 HA10.out 2 (.int .i64 0)).setg hn5 HA10.out 3 (.int .i64 0)).setg hn5 HA10.out 4 (.string ⟨#[]⟩)).setg hn5 HA10.out 5 (.slice none 0 0))
    have M4 := Lib.hid ((((M3.out.set (o := 2) hn8 (.int .i64 0)).set (o := 3) hn8 (.int .i64 0)).set (o := 4) hn8 (.string ⟨#[]⟩)).set (o := 5) hn8 (.slice none 0 0))
    have V8d : Hid (((((w3.setCell ⟨g10, 2, none⟩ (.int .i64 0)).setCell ⟨g10, 3, none⟩ (.int .i64 0)).setCell ⟨g10, 4, none⟩ (.string ⟨#[]⟩)).setCell ⟨g10, 5, none⟩ (.slice none 0 0)).heap[g8]? = some (.cells #[.int .i64 0, .string ⟨#[]⟩, .int .i64 0, .int .i64 0, .string ⟨#[]⟩, .slice none 0 0, .slice none 0 0, .slice none 0 0] 67 (0, 0))) := Lib.hid ((s4_blk hn1 _ _ _ _).trans V8c.out)
    go_upto_region 16 with fail
    generalize ((((w3.setCell ⟨g10, 2, none⟩ (.int .i64 0)).setCell ⟨g10, 3, none⟩ (.int .i64 0)).setCell ⟨g10, 4, none⟩ (.string ⟨#[]⟩)).setCell ⟨g10, 5, none⟩ (.slice none 0 0)) = w4 at *
    clear c0 c1 c2 c3 c4 c5 c6 c7 f0 f1 f2 f3 f4 f5 f6 f7
    obtain ⟨⟨c0, c1, c2, c3, c4, c5, c6, c7⟩, f0, f1, f2, f3, f4, f5, f6, f7⟩ := cells8R V8d.out
    go_wp2_with fail
    refine bodyPost_ret (v := .tuple #[.agg #[.int .i64 0, .string ⟨#[]⟩, .int .i64 0, .int .i64 0, .string ⟨#[]⟩, .slice none 0 0, .slice none 0 0, .slice none 0 0], .bool false]) (by simp [results, Tryd.results67, go_sem, c0, c1, c2, c3, c4, c5, c6, c7]) rfl ?_
    rw [G2.out]
    exact finB ⟨0, ⟨#[]⟩, 0, 0, ⟨#[]⟩, none, 0, 0, none, 0, 0, none, 0, 0⟩ HG8.out K4.out R4.out M4.out EE.out.as EE.out.lts.1 EE.out.lts.2
  | ok t q =>
    obtain ⟨_, ty, tn, ts, tA, tm, tc, rfl, tof, r3⟩ := hret.ok
    have T3 := Lib.hid tof
    have E3 := Lib.hid (E2.out.step KR3.out r3 M3.out)
    have GB : Hid (oneG L n rec 1 i left = (tk L n ⟨#[59]⟩ q).bind fun _ i3 => .ok (.mk 1 T t [] [], left) i3) := Lib.hid (by rw [GA.out, bind_ok])
    clear r3 hret tof GA M3 KR3
    have E4 := Lib.hid ((((E3.out.setg hn5 hn8 HA10.out HW10.out 2 (.int .i64 ty)).setg hn5 hn8 HA10.out HW10.out 3 (.int .i64 tn)).setg hn5 hn8 HA10.out HW10.out 4 (.string ts)).setg hn5 hn8 HA10.out HW10.out 5 (.slice tA tm tc))
    have K4 : Hid (KeepM rb mb w ((((w3.setCell ⟨g10, 2, none⟩ (.int .i64 ty)).setCell ⟨g10, 3, none⟩ (.int .i64 tn)).setCell ⟨g10, 4, none⟩ (.string ts)).setCell ⟨g10, 5, none⟩ (.slice tA tm tc))) := Lib.hid ((((K3.out.setg (by have := HG10.out; omega) _).setg (by have := HG10.out; omega) _).setg (by have := HG10.out; omega) _).setg (by have := HG10.out; omega) _)
    have V8d : Hid (((((w3.setCell ⟨g10, 2, none⟩ (.int .i64 ty)).setCell ⟨g10, 3, none⟩ (.int .i64 tn)).setCell ⟨g10, 4, none⟩ (.string ts)).setCell ⟨g10, 5, none⟩ (.slice tA tm tc)).heap[g8]? = some (.cells #[.int .i64 0, .string ⟨#[]⟩, .int .i64 0, .int .i64 0, .string ⟨#[]⟩, .slice none 0 0, .slice none 0 0, .slice none 0 0] 67 (0, 0))) := Lib.hid ((s4_blk hn1 _ _ _ _).trans V8c.out)
    have V10d : Hid (((((w3.setCell ⟨g10, 2, none⟩ (.int .i64 ty)).setCell ⟨g10, 3, none⟩ (.int .i64 tn)).setCell ⟨g10, 4, none⟩ (.string ts)).setCell ⟨g10, 5, none⟩ (.slice tA tm tc)).heap[g10]? = some (.cells #[.int .i64 1, .string T, .int .i64 ty, .int .i64 tn, .string ts, .slice tA tm tc, .slice none 0 0, .slice none 0 0] 67 (0, 0))) := Lib.hid (s8_t V10c.out _ _ _ _)
    have T4 := Lib.hid ((((T3.out.set (p := ⟨g10, 2, none⟩) (fun h => by have h1 : w2.heap.size ≤ g10 := h.1; have := S2.out; omega) (.int .i64 ty)).set (p := ⟨g10, 3, none⟩) (fun h => by have h1 : w2.heap.size ≤ g10 := h.1; have := S2.out; omega) (.int .i64 tn)).set (p := ⟨g10, 4, none⟩) (fun h => by have h1 : w2.heap.size ≤ g10 := h.1; have := S2.out; omega) (.string ts)).set (p := ⟨g10, 5, none⟩) (fun h => by have h1 : w2.heap.size ≤ g10 := h.1; have := S2.out; omega) (.slice tA tm tc))
    have S4 : Hid (((((w3.setCell ⟨g10, 2, none⟩ (.int .i64 ty)).setCell ⟨g10, 3, none⟩ (.int .i64 tn)).setCell ⟨g10, 4, none⟩ (.string ts)).setCell ⟨g10, 5, none⟩ (.slice tA tm tc)).heap.size = w3.heap.size) := Lib.hid (by simp)
    go_wp2_with fail
    obtain ⟨wd, hwd⟩ : ∃ wd, ((((w3.setCell ⟨g10, 2, none⟩ (.int .i64 ty)).setCell ⟨g10, 3, none⟩ (.int .i64 tn)).setCell ⟨g10, 4, none⟩ (.string ts)).setCell ⟨g10, 5, none⟩ (.slice tA tm tc)) = wd := ⟨_, rfl⟩
    rw [hwd] at E4 K4 V8d V10d T4 S4 ⊢
    clear hwd c0 c1 c2 c3 c4 c5 c6 c7 f0 f1 f2 f3 f4 f5 f6 f7 E3 K3 V8c V10c T3
    refine (rd_take ⟨#[59]⟩ _ rb A c n q L 0 E4.out.rd (by decide)).mono ?_
    rintro e w5 ⟨k5, hret⟩
    have K5 : Hid (KeepM rb mb w w5) := Lib.hid (K4.out.trans' (KeepM.of_r k5))
    have V8 : Hid (w5.heap[g8]? = some (.cells #[.int .i64 0, .string ⟨#[]⟩, .int .i64 0, .int .i64 0, .string ⟨#[]⟩, .slice none 0 0, .slice none 0 0, .slice none 0 0] 67 (0, 0))) := Lib.hid ((k5.block g8 (lt_of_block V8d.out) hn3).trans V8d.out)
    have V10 : Hid (w5.heap[g10]? = some (.cells #[.int .i64 1, .string T, .int .i64 ty, .int .i64 tn, .string ts, .slice tA tm tc, .slice none 0 0, .slice none 0 0] 67 (0, 0))) := Lib.hid ((k5.block g10 (lt_of_block V10d.out) hn5).trans V10d.out)
    have M5 := Lib.hid (E4.out.many.keepR k5 EE.out.ne)
    have T5 := Lib.hid (T4.out.keep fun b hb => k5.block b (by have := hb.2; have := S4.out; omega) (by have := hb.1; have := S2.out; omega))
    have S5 : Hid (w3.heap.size ≤ w5.heap.size) := Lib.hid (by have := k5.size; have := S4.out; omega)
    clear k5
    rcases hret with ⟨ht5, rfl, r5⟩ | ⟨ht5, rfl, r5⟩
    case inr =>
      have R5 := Lib.hid r5
      have G2 : Hid (oneG L n rec 1 i left = .bad 3 (posAt L n q)) := Lib.hid (by rw [GB.out, tk_bad ht5]; rfl)
      clear r5 ht5
      obtain ⟨⟨c0, c1, c2, c3, c4, c5, c6, c7⟩, f0, f1, f2, f3, f4, f5, f6, f7⟩ := cells8R V8.out
      go_wp2_with fail
      refine bodyPost_ret (v := .tuple #[.agg #[.int .i64 0, .string ⟨#[]⟩, .int .i64 0, .int .i64 0, .string ⟨#[]⟩, .slice none 0 0, .slice none 0 0, .slice none 0 0], .bool false]) (by simp [results, Tryd.results67, go_sem, c0, c1, c2, c3, c4, c5, c6, c7]) rfl ?_
      rw [G2.out]
      exact finB ⟨0, ⟨#[]⟩, 0, 0, ⟨#[]⟩, none, 0, 0, none, 0, 0, none, 0, 0⟩ HG8.out K5.out R5.out M5.out EE.out.as EE.out.lts.1 EE.out.lts.2
    have R5 := Lib.hid r5
    have G2 : Hid (oneG L n rec 1 i left = .ok (.mk 1 T t [] [], left) (q + 1)) := Lib.hid (by rw [GB.out, tk_ok ht5, bind_ok])
    clear r5 ht5
    obtain ⟨⟨c0, c1, c2, c3, c4, c5, c6, c7⟩, f0, f1, f2, f3, f4, f5, f6, f7⟩ := cells8R V8.out
    obtain ⟨⟨a0, a1, a2, a3, a4, a5, a6, a7⟩, _⟩ := cells8R V10.out
    go_wp2_with fail
    refine bodyPost_ret (v := .tuple #[.agg #[.int .i64 1, .string T, .int .i64 ty, .int .i64 tn, .string ts, .slice tA tm tc, .slice none 0 0, .slice none 0 0], .bool true]) (by simp [results, Tryd.results67, go_sem, c0, c1, c2, c3, c4, c5, c6, c7]) rfl ?_
    rw [G2.out]
    exact finO (F := Made w2 w3) ⟨1, T, ty, tn, ts, tA, tm, tc, none, 0, 0, none, 0, 0⟩ HG8.out K5.out R5.out M5.out EE.out.as EE.out.lts.1 EE.out.lts.2 (stO_flatR (by unfold i64in; omega) HSZ.out T5.out (fun _ h => h)) (fun b h => ⟨by have := h.1; have := S2.out; have := HG8.out; omega, by have := h.2; have := S5.out; omega⟩) hml
set_option maxHeartbeats 3200000 in
set_option maxRecDepth 100000 in
theorem rd_stmt_skip (rec : Nat → Nat → Got (List St × Nat)) (d : Int) (W0 w : World) (rb mb : Nat) (A : Option Addr) (c n i : Nat) (L : List Sg) (m left : Nat) (ee : EnvR W0 w rb mb A c n i L m) (hml : m + left = 60) (hlt : i < L.length) :
    Calls Tryd.prog 67 #[.pointer (some ⟨rb, 0, none⟩), .int .i64 8, .int .i64 d, .pointer (some ⟨mb, 0, none⟩)] w fun e w' => GotS1 w w' rb mb A c n L (oneG L n rec 8 i left) e := by
  have EE := Lib.hid ee
  have hrb := ee.lts.1
  have hmb := ee.lts.2
  have hi6 := ee.rd.hi
  have hL6 := ee.rd.hL
  clear ee
  go_enter Tryd.func67, Tryd.ntmps67
  have BA : Hid (Below w.heap.size w ((w.alloc (.cells #[.int .i64 0, .string ByteArray.empty, .int .i64 0, .int .i64 0, .string ByteArray.empty, .slice none 0 0, .slice none 0 0, .slice none 0 0] 67)).alloc (.cells #[.int .i64 8, .string ⟨#[]⟩, .int .i64 0, .int .i64 0, .string ⟨#[]⟩, .slice none 0 0, .slice none 0 0, .slice none 0 0] 67))) := Lib.hid (Below.alloc (Below.alloc (Below.refl _ _) (Nat.le_refl _) _) (by simp) _)
  have VA8 : Hid (((w.alloc (.cells #[.int .i64 0, .string ByteArray.empty, .int .i64 0, .int .i64 0, .string ByteArray.empty, .slice none 0 0, .slice none 0 0, .slice none 0 0] 67)).alloc (.cells #[.int .i64 8, .string ⟨#[]⟩, .int .i64 0, .int .i64 0, .string ⟨#[]⟩, .slice none 0 0, .slice none 0 0, .slice none 0 0] 67)).heap[w.heap.size]? = some (.cells #[.int .i64 0, .string ⟨#[]⟩, .int .i64 0, .int .i64 0, .string ⟨#[]⟩, .slice none 0 0, .slice none 0 0, .slice none 0 0] 67 (0, 0))) := Lib.hid ((heap_alloc_lt (by simp)).trans (heap_alloc_new _ _))
  have VA10 : Hid (((w.alloc (.cells #[.int .i64 0, .string ByteArray.empty, .int .i64 0, .int .i64 0, .string ByteArray.empty, .slice none 0 0, .slice none 0 0, .slice none 0 0] 67)).alloc (.cells #[.int .i64 8, .string ⟨#[]⟩, .int .i64 0, .int .i64 0, .string ⟨#[]⟩, .slice none 0 0, .slice none 0 0, .slice none 0 0] 67)).heap[w.heap.size + 1]? = some (.cells #[.int .i64 8, .string ⟨#[]⟩, .int .i64 0, .int .i64 0, .string ⟨#[]⟩, .slice none 0 0, .slice none 0 0, .slice none 0 0] 67 (0, 0))) := Lib.hid (by have := heap_alloc_new (w.alloc (.cells #[.int .i64 0, .string ByteArray.empty, .int .i64 0, .int .i64 0, .string ByteArray.empty, .slice none 0 0, .slice none 0 0, .slice none 0 0] 67)) (.cells #[.int .i64 8, .string ⟨#[]⟩, .int .i64 0, .int .i64 0, .string ⟨#[]⟩, .slice none 0 0, .slice none 0 0, .slice none 0 0] 67); simpa using this)
  go_upto_region 15 with fail
  obtain ⟨wa, hwa⟩ : ∃ wa, ((w.alloc (.cells #[.int .i64 0, .string ByteArray.empty, .int .i64 0, .int .i64 0, .string ByteArray.empty, .slice none 0 0, .slice none 0 0, .slice none 0 0] 67)).alloc (.cells #[.int .i64 8, .string ⟨#[]⟩, .int .i64 0, .int .i64 0, .string ⟨#[]⟩, .slice none 0 0, .slice none 0 0, .slice none 0 0] 67)) = wa := ⟨_, rfl⟩
  have hza : wa.heap.size = w.heap.size + 2 := by rw [← hwa]; simp
  have hwa2 : ((w.alloc (.cells #[.int .i64 0, .string ⟨#[]⟩, .int .i64 0, .int .i64 0, .string ⟨#[]⟩, .slice none 0 0, .slice none 0 0, .slice none 0 0] 67)).alloc (.cells #[.int .i64 8, .string ⟨#[]⟩, .int .i64 0, .int .i64 0, .string ⟨#[]⟩, .slice none 0 0, .slice none 0 0, .slice none 0 0] 67)) = wa := hwa
  (try first | rw [hwa] | rw [hwa2])
  rw [hwa] at BA VA8 VA10
  clear hwa hwa2
  have EA := Lib.hid (EE.out.below BA.out)
  have KA : Hid (KeepM rb mb w wa) := Lib.hid (KeepM.of_below BA.out)
  obtain ⟨g8, hg8⟩ : ∃ g, w.heap.size = g := ⟨_, rfl⟩
  obtain ⟨g10, hg10⟩ : ∃ g, w.heap.size + 1 = g := ⟨_, rfl⟩
  have HG8 := Lib.hid hg8
  have HG10 := Lib.hid hg10
  have hn1 : ¬ g8 = g10 := by omega
  have hn2 : ¬ g10 = g8 := by omega
  have hn3 : ¬ g8 = rb := by omega
  have hn4 : ¬ rb = g8 := by omega
  have hn5 : ¬ g10 = rb := by omega
  have hn6 : ¬ rb = g10 := by omega
  have hn7 : ¬ g8 = mb := by omega
  have hn8 : ¬ g10 = mb := by omega
  have hlt10 : g10 < wa.heap.size := by omega
  have hlt8 : g8 < wa.heap.size := by omega
  have HA8 : Hid (∀ b o, A = some ⟨b, o, none⟩ → b ≠ g8) := Lib.hid (fun b o e => by have := EE.out.as b o e; omega)
  have HA10 : Hid (∀ b o, A = some ⟨b, o, none⟩ → b ≠ g10) := Lib.hid (fun b o e => by have := EE.out.as b o e; omega)
  have HW10 : Hid (W0.heap.size ≤ g10) := Lib.hid (by have := EE.out.base.size; omega)
  rw [hg8] at VA8
  rw [hg10] at VA10
  (try rw [hg10])
  (try rw [hg8])
  clear hg8 hg10
  have E1b := Lib.hid (EA.out.at1 (by omega))
  have K1b : Hid (KeepM rb mb w (wa.setCell ⟨rb, 2, none⟩ (.int .i64 ((i : Int) + 1)))) := Lib.hid (KA.out.setCell (p := ⟨rb, 2, none⟩) (by simp) _)
  have V8b : Hid ((wa.setCell ⟨rb, 2, none⟩ (.int .i64 ((i : Int) + 1))).heap[g8]? = some (.cells #[.int .i64 0, .string ⟨#[]⟩, .int .i64 0, .int .i64 0, .string ⟨#[]⟩, .slice none 0 0, .slice none 0 0, .slice none 0 0] 67 (0, 0))) := Lib.hid ((Below.heap_setCell wa ⟨rb, 2, none⟩ _ g8 hn3).trans VA8.out)
  have V10b : Hid ((wa.setCell ⟨rb, 2, none⟩ (.int .i64 ((i : Int) + 1))).heap[g10]? = some (.cells #[.int .i64 8, .string ⟨#[]⟩, .int .i64 0, .int .i64 0, .string ⟨#[]⟩, .slice none 0 0, .slice none 0 0, .slice none 0 0] 67 (0, 0))) := Lib.hid ((Below.heap_setCell wa ⟨rb, 2, none⟩ _ g10 hn5).trans VA10.out)
  have S1b : Hid ((wa.setCell ⟨rb, 2, none⟩ (.int .i64 ((i : Int) + 1))).heap.size = wa.heap.size) := Lib.hid (by simp)
  obtain ⟨_, _, p2, _, _⟩ := EA.out.rd.cs
  have fr2 := EA.out.rd.fz 2
  have hrl := EA.out.lts.1
  go_wp2_with fail
  obtain ⟨wb, hwb⟩ : ∃ wb, wa.setCell ⟨rb, 2, none⟩ (.int .i64 ((i : Int) + 1)) = wb := ⟨_, rfl⟩
  rw [hwb] at E1b K1b V8b V10b S1b ⊢
  clear hwb p2 fr2
  refine (rd_take ⟨#[59]⟩ _ rb A c n (i + 1) L 0 E1b.out.rd (by decide)).mono ?_
  rintro e w5 ⟨k5, hret⟩
  have K5 : Hid (KeepM rb mb w w5) := Lib.hid (K1b.out.trans' (KeepM.of_r k5))
  have V8 : Hid (w5.heap[g8]? = some (.cells #[.int .i64 0, .string ⟨#[]⟩, .int .i64 0, .int .i64 0, .string ⟨#[]⟩, .slice none 0 0, .slice none 0 0, .slice none 0 0] 67 (0, 0))) := Lib.hid ((k5.block g8 (lt_of_block V8b.out) hn3).trans V8b.out)
  have V10 : Hid (w5.heap[g10]? = some (.cells #[.int .i64 8, .string ⟨#[]⟩, .int .i64 0, .int .i64 0, .string ⟨#[]⟩, .slice none 0 0, .slice none 0 0, .slice none 0 0] 67 (0, 0))) := Lib.hid ((k5.block g10 (lt_of_block V10b.out) hn5).trans V10b.out)
  have M5 := Lib.hid (E1b.out.many.keepR k5 EE.out.ne)
  clear k5
  rcases hret with ⟨ht5, rfl, r5⟩ | ⟨ht5, rfl, r5⟩
  case inr =>
    have R5 := Lib.hid r5
    have G2 : Hid (oneG L n rec 8 i left = .bad 3 (posAt L n (i + 1))) := Lib.hid (by rw [oneG_skip, tk_bad ht5]; rfl)
    clear r5 ht5
    obtain ⟨⟨c0, c1, c2, c3, c4, c5, c6, c7⟩, f0, f1, f2, f3, f4, f5, f6, f7⟩ := cells8R V8.out
    go_wp2_with fail
    refine bodyPost_ret (v := .tuple #[.agg #[.int .i64 0, .string ⟨#[]⟩, .int .i64 0, .int .i64 0, .string ⟨#[]⟩, .slice none 0 0, .slice none 0 0, .slice none 0 0], .bool false]) (by simp [results, Tryd.results67, go_sem, c0, c1, c2, c3, c4, c5, c6, c7]) rfl ?_
    rw [G2.out]
    exact finB ⟨0, ⟨#[]⟩, 0, 0, ⟨#[]⟩, none, 0, 0, none, 0, 0, none, 0, 0⟩ HG8.out K5.out R5.out M5.out EE.out.as EE.out.lts.1 EE.out.lts.2
  have R5 := Lib.hid r5
  have G2 : Hid (oneG L n rec 8 i left = .ok (.mk 8 ⟨#[]⟩ zTm [] [], left) (i + 1 + 1)) := Lib.hid (by rw [oneG_skip, tk_ok ht5, bind_ok])
  clear r5 ht5
  obtain ⟨⟨c0, c1, c2, c3, c4, c5, c6, c7⟩, f0, f1, f2, f3, f4, f5, f6, f7⟩ := cells8R V8.out
  obtain ⟨⟨a0, a1, a2, a3, a4, a5, a6, a7⟩, _⟩ := cells8R V10.out
  go_wp2_with fail
  refine bodyPost_ret (v := .tuple #[.agg #[.int .i64 8, .string ⟨#[]⟩, .int .i64 0, .int .i64 0, .string ⟨#[]⟩, .slice none 0 0, .slice none 0 0, .slice none 0 0], .bool true]) (by simp [results, Tryd.results67, go_sem, c0, c1, c2, c3, c4, c5, c6, c7]) rfl ?_
  rw [G2.out]
  exact finO (F := fun _ => False) ⟨8, ⟨#[]⟩, 0, 0, ⟨#[]⟩, none, 0, 0, none, 0, 0, none, 0, 0⟩ HG8.out K5.out R5.out M5.out EE.out.as EE.out.lts.1 EE.out.lts.2 (stO_flatR (by unfold i64in; omega) (Nat.zero_le _) zTmO (fun _ h => h)) (fun _ h => h.elim) hml
set_option maxHeartbeats 3200000 in
set_option maxRecDepth 100000 in
theorem rd_stmt_word (rec : Nat → Nat → Got (List St × Nat)) (d : Int) (W0 w : World) (rb mb : Nat) (A : Option Addr) (c n i : Nat) (L : List Sg) (m left : Nat) (ee : EnvR W0 w rb mb A c n i L m) (hml : m + left = 60) (k : Int) (hk : k = 4 ∨ k = 5 ∨ k = 6 ∨ k = 7) (hlt : i < L.length) :
    Calls Tryd.prog 67 #[.pointer (some ⟨rb, 0, none⟩), .int .i64 k, .int .i64 d, .pointer (some ⟨mb, 0, none⟩)] w fun e w' => GotS1 w w' rb mb A c n L (oneG L n rec k i left) e := by
  have GW := Lib.hid (oneG_word (L := L) (n := n) (rec := rec) (i := i) (left := left) hk)
  have HK := Lib.hid hk
  have e1 : (k == 1) = false := beq_eq_false_iff_ne.2 (by omega)
  have e2 : (k == 2) = false := beq_eq_false_iff_ne.2 (by omega)
  have e3 : (k == 3) = false := beq_eq_false_iff_ne.2 (by omega)
  have e8 : (k == 8) = false := beq_eq_false_iff_ne.2 (by omega)
  clear hk
  have EE := Lib.hid ee
  have hrb := ee.lts.1
  have hmb := ee.lts.2
  have hi6 := ee.rd.hi
  have hL6 := ee.rd.hL
  clear ee
  go_enter Tryd.func67, Tryd.ntmps67
  have BA : Hid (Below w.heap.size w ((w.alloc (.cells #[.int .i64 0, .string ByteArray.empty, .int .i64 0, .int .i64 0, .string ByteArray.empty, .slice none 0 0, .slice none 0 0, .slice none 0 0] 67)).alloc (.cells #[.int .i64 k, .string ⟨#[]⟩, .int .i64 0, .int .i64 0, .string ⟨#[]⟩, .slice none 0 0, .slice none 0 0, .slice none 0 0] 67))) := Lib.hid (Below.alloc (Below.alloc (Below.refl _ _) (Nat.le_refl _) _) (by simp) _)
  have VA8 : Hid (((w.alloc (.cells #[.int .i64 0, .string ByteArray.empty, .int .i64 0, .int .i64 0, .string ByteArray.empty, .slice none 0 0, .slice none 0 0, .slice none 0 0] 67)).alloc (.cells #[.int .i64 k, .string ⟨#[]⟩, .int .i64 0, .int .i64 0, .string ⟨#[]⟩, .slice none 0 0, .slice none 0 0, .slice none 0 0] 67)).heap[w.heap.size]? = some (.cells #[.int .i64 0, .string ⟨#[]⟩, .int .i64 0, .int .i64 0, .string ⟨#[]⟩, .slice none 0 0, .slice none 0 0, .slice none 0 0] 67 (0, 0))) := Lib.hid ((heap_alloc_lt (by simp)).trans (heap_alloc_new _ _))
  have VA10 : Hid (((w.alloc (.cells #[.int .i64 0, .string ByteArray.empty, .int .i64 0, .int .i64 0, .string ByteArray.empty, .slice none 0 0, .slice none 0 0, .slice none 0 0] 67)).alloc (.cells #[.int .i64 k, .string ⟨#[]⟩, .int .i64 0, .int .i64 0, .string ⟨#[]⟩, .slice none 0 0, .slice none 0 0, .slice none 0 0] 67)).heap[w.heap.size + 1]? = some (.cells #[.int .i64 k, .string ⟨#[]⟩, .int .i64 0, .int .i64 0, .string ⟨#[]⟩, .slice none 0 0, .slice none 0 0, .slice none 0 0] 67 (0, 0))) := Lib.hid (by have := heap_alloc_new (w.alloc (.cells #[.int .i64 0, .string ByteArray.empty, .int .i64 0, .int .i64 0, .string ByteArray.empty, .slice none 0 0, .slice none 0 0, .slice none 0 0] 67)) (.cells #[.int .i64 k, .string ⟨#[]⟩, .int .i64 0, .int .i64 0, .string ⟨#[]⟩, .slice none 0 0, .slice none 0 0, .slice none 0 0] 67); simpa using this)
  go_upto_region 4 with fail
  obtain ⟨wa, hwa⟩ : ∃ wa, ((w.alloc (.cells #[.int .i64 0, .string ByteArray.empty, .int .i64 0, .int .i64 0, .string ByteArray.empty, .slice none 0 0, .slice none 0 0, .slice none 0 0] 67)).alloc (.cells #[.int .i64 k, .string ⟨#[]⟩, .int .i64 0, .int .i64 0, .string ⟨#[]⟩, .slice none 0 0, .slice none 0 0, .slice none 0 0] 67)) = wa := ⟨_, rfl⟩
  have hza : wa.heap.size = w.heap.size + 2 := by rw [← hwa]; simp
  have hwa2 : ((w.alloc (.cells #[.int .i64 0, .string ⟨#[]⟩, .int .i64 0, .int .i64 0, .string ⟨#[]⟩, .slice none 0 0, .slice none 0 0, .slice none 0 0] 67)).alloc (.cells #[.int .i64 k, .string ⟨#[]⟩, .int .i64 0, .int .i64 0, .string ⟨#[]⟩, .slice none 0 0, .slice none 0 0, .slice none 0 0] 67)) = wa := hwa
  (try first | rw [hwa] | rw [hwa2])
  rw [hwa] at BA VA8 VA10
  clear hwa hwa2
  have EA := Lib.hid (EE.out.below BA.out)
  have KA : Hid (KeepM rb mb w wa) := Lib.hid (KeepM.of_below BA.out)
  obtain ⟨g8, hg8⟩ : ∃ g, w.heap.size = g := ⟨_, rfl⟩
  obtain ⟨g10, hg10⟩ : ∃ g, w.heap.size + 1 = g := ⟨_, rfl⟩
  have HG8 := Lib.hid hg8
  have HG10 := Lib.hid hg10
  have hn1 : ¬ g8 = g10 := by omega
  have hn2 : ¬ g10 = g8 := by omega
  have hn3 : ¬ g8 = rb := by omega
  have hn4 : ¬ rb = g8 := by omega
  have hn5 : ¬ g10 = rb := by omega
  have hn6 : ¬ rb = g10 := by omega
  have hn7 : ¬ g8 = mb := by omega
  have hn8 : ¬ g10 = mb := by omega
  have hlt10 : g10 < wa.heap.size := by omega
  have hlt8 : g8 < wa.heap.size := by omega
  have HA8 : Hid (∀ b o, A = some ⟨b, o, none⟩ → b ≠ g8) := Lib.hid (fun b o e => by have := EE.out.as b o e; omega)
  have HA10 : Hid (∀ b o, A = some ⟨b, o, none⟩ → b ≠ g10) := Lib.hid (fun b o e => by have := EE.out.as b o e; omega)
  have HW10 : Hid (W0.heap.size ≤ g10) := Lib.hid (by have := EE.out.base.size; omega)
  rw [hg8] at VA8
  rw [hg10] at VA10
  (try rw [hg10])
  (try rw [hg8])
  clear hg8 hg10
  have E1b := Lib.hid (EA.out.at1 (by omega))
  have K1b : Hid (KeepM rb mb w (wa.setCell ⟨rb, 2, none⟩ (.int .i64 ((i : Int) + 1)))) := Lib.hid (KA.out.setCell (p := ⟨rb, 2, none⟩) (by simp) _)
  have V8b : Hid ((wa.setCell ⟨rb, 2, none⟩ (.int .i64 ((i : Int) + 1))).heap[g8]? = some (.cells #[.int .i64 0, .string ⟨#[]⟩, .int .i64 0, .int .i64 0, .string ⟨#[]⟩, .slice none 0 0, .slice none 0 0, .slice none 0 0] 67 (0, 0))) := Lib.hid ((Below.heap_setCell wa ⟨rb, 2, none⟩ _ g8 hn3).trans VA8.out)
  have V10b : Hid ((wa.setCell ⟨rb, 2, none⟩ (.int .i64 ((i : Int) + 1))).heap[g10]? = some (.cells #[.int .i64 k, .string ⟨#[]⟩, .int .i64 0, .int .i64 0, .string ⟨#[]⟩, .slice none 0 0, .slice none 0 0, .slice none 0 0] 67 (0, 0))) := Lib.hid ((Below.heap_setCell wa ⟨rb, 2, none⟩ _ g10 hn5).trans VA10.out)
  have S1b : Hid ((wa.setCell ⟨rb, 2, none⟩ (.int .i64 ((i : Int) + 1))).heap.size = wa.heap.size) := Lib.hid (by simp)
  obtain ⟨_, _, p2, _, _⟩ := EA.out.rd.cs
  have fr2 := EA.out.rd.fz 2
  have hrl := EA.out.lts.1
  go_wp2_with fail
  obtain ⟨wb, hwb⟩ : ∃ wb, wa.setCell ⟨rb, 2, none⟩ (.int .i64 ((i : Int) + 1)) = wb := ⟨_, rfl⟩
  rw [hwb] at E1b K1b V8b V10b S1b ⊢
  clear hwb p2 fr2
  refine (rd_takeName _ rb A c n (i + 1) L 0 E1b.out.rd).mono ?_
  rintro e w1 ⟨k1, hret⟩
  have K1 : Hid (KeepM rb mb w w1) := Lib.hid (K1b.out.trans' (KeepM.of_r k1))
  have KR1 : Hid (KeepM rb mb wb w1) := Lib.hid (KeepM.of_r k1)
  have V8 : Hid (w1.heap[g8]? = some (.cells #[.int .i64 0, .string ⟨#[]⟩, .int .i64 0, .int .i64 0, .string ⟨#[]⟩, .slice none 0 0, .slice none 0 0, .slice none 0 0] 67 (0, 0))) := Lib.hid ((k1.block g8 (lt_of_block V8b.out) hn3).trans V8b.out)
  have V10 : Hid (w1.heap[g10]? = some (.cells #[.int .i64 k, .string ⟨#[]⟩, .int .i64 0, .int .i64 0, .string ⟨#[]⟩, .slice none 0 0, .slice none 0 0, .slice none 0 0] 67 (0, 0))) := Lib.hid ((k1.block g10 (lt_of_block V10b.out) hn5).trans V10b.out)
  have M1 := Lib.hid (E1b.out.many.keepR k1 EE.out.ne)
  clear k1
  obtain ⟨⟨c0, c1, c2, c3, c4, c5, c6, c7⟩, f0, f1, f2, f3, f4, f5, f6, f7⟩ := cells8R V10.out
  have hz10 := lt_of_block V10.out
  rcases hret with ⟨hn, rfl, r1⟩ | ⟨hn, rfl, r1⟩
  case inr =>
    have R1b := Lib.hid (r1.setg hn5 HA10.out 1 (.string ⟨#[]⟩))
    have M1b := Lib.hid (M1.out.set (o := 1) hn8 (.string ⟨#[]⟩))
    have K1c : Hid (KeepM rb mb w (w1.setCell ⟨g10, 1, none⟩ (.string ⟨#[]⟩))) := Lib.hid (K1.out.setg (by have := HG10.out; omega) _)
    have V8c : Hid ((w1.setCell ⟨g10, 1, none⟩ (.string ⟨#[]⟩)).heap[g8]? = some (.cells #[.int .i64 0, .string ⟨#[]⟩, .int .i64 0, .int .i64 0, .string ⟨#[]⟩, .slice none 0 0, .slice none 0 0, .slice none 0 0] 67 (0, 0))) := Lib.hid ((Below.heap_setCell w1 ⟨g10, 1, none⟩ _ g8 hn1).trans V8.out)
    have G2 : Hid (oneG L n rec k i left = .bad 3 (posAt L n (i + 1))) := Lib.hid (by rw [GW.out, if_neg (by rw [hn]; decide)])
    clear r1 hn
    go_upto_region 16 with fail
    generalize w1.setCell ⟨g10, 1, none⟩ (.string ⟨#[]⟩) = w4 at *
    clear c0 c1 c2 c3 c4 c5 c6 c7 f0 f1 f2 f3 f4 f5 f6 f7
    obtain ⟨⟨c0, c1, c2, c3, c4, c5, c6, c7⟩, f0, f1, f2, f3, f4, f5, f6, f7⟩ := cells8R V8c.out
    go_wp2_with fail
    refine bodyPost_ret (v := .tuple #[.agg #[.int .i64 0, .string ⟨#[]⟩, .int .i64 0, .int .i64 0, .string ⟨#[]⟩, .slice none 0 0, .slice none 0 0, .slice none 0 0], .bool false]) (by simp [results, Tryd.results67, go_sem, c0, c1, c2, c3, c4, c5, c6, c7]) rfl ?_
    rw [G2.out]
    exact finB ⟨0, ⟨#[]⟩, 0, 0, ⟨#[]⟩, none, 0, 0, none, 0, 0, none, 0, 0⟩ HG8.out K1c.out R1b.out M1b.out EE.out.as EE.out.lts.1 EE.out.lts.2
  have HSZ := Lib.hid (name_sz hn)
  have E1 := Lib.hid (E1b.out.step KR1.out r1 M1.out)
  have GB : Hid (oneG L n rec k i left = (tk L n ⟨#[59]⟩ (i + 1 + 1)).bind fun _ i1 => .ok (.mk k (tx L (i + 1)) zTm [] [], left) i1) := Lib.hid (by rw [GW.out, if_pos hn])
  clear r1 hn
  obtain ⟨T, hT⟩ : ∃ T, tx L (i + 1) = T := ⟨_, rfl⟩
  rw [hT] at HSZ GB ⊢
  clear hT
  have E1d : Hid (EnvR W0 (w1.setCell ⟨g10, 1, none⟩ (.string T)) rb mb A c n (i + 1 + 1) L m) := Lib.hid (E1.out.setg hn5 hn8 HA10.out HW10.out 1 (.string T))
  have K1d : Hid (KeepM rb mb w (w1.setCell ⟨g10, 1, none⟩ (.string T))) := Lib.hid (K1.out.setg (by have := HG10.out; omega) _)
  have V8d : Hid ((w1.setCell ⟨g10, 1, none⟩ (.string T)).heap[g8]? = some (.cells #[.int .i64 0, .string ⟨#[]⟩, .int .i64 0, .int .i64 0, .string ⟨#[]⟩, .slice none 0 0, .slice none 0 0, .slice none 0 0] 67 (0, 0))) := Lib.hid ((Below.heap_setCell w1 ⟨g10, 1, none⟩ _ g8 hn1).trans V8.out)
  have V10d : Hid ((w1.setCell ⟨g10, 1, none⟩ (.string T)).heap[g10]? = some (.cells #[.int .i64 k, .string T, .int .i64 0, .int .i64 0, .string ⟨#[]⟩, .slice none 0 0, .slice none 0 0, .slice none 0 0] 67 (0, 0))) := Lib.hid (s8_1 V10.out _)
  go_wp2_with fail
  obtain ⟨wd, hwd⟩ : ∃ wd, w1.setCell ⟨g10, 1, none⟩ (.string T) = wd := ⟨_, rfl⟩
  rw [hwd] at E1d K1d V8d V10d ⊢
  clear hwd c0 c1 c2 c3 c4 c5 c6 c7 f0 f1 f2 f3 f4 f5 f6 f7
  refine (rd_take ⟨#[59]⟩ _ rb A c n (i + 1 + 1) L 0 E1d.out.rd (by decide)).mono ?_
  rintro e w5 ⟨k5, hret⟩
  have K5 : Hid (KeepM rb mb w w5) := Lib.hid (K1d.out.trans' (KeepM.of_r k5))
  have V8e : Hid (w5.heap[g8]? = some (.cells #[.int .i64 0, .string ⟨#[]⟩, .int .i64 0, .int .i64 0, .string ⟨#[]⟩, .slice none 0 0, .slice none 0 0, .slice none 0 0] 67 (0, 0))) := Lib.hid ((k5.block g8 (lt_of_block V8d.out) hn3).trans V8d.out)
  have V10e : Hid (w5.heap[g10]? = some (.cells #[.int .i64 k, .string T, .int .i64 0, .int .i64 0, .string ⟨#[]⟩, .slice none 0 0, .slice none 0 0, .slice none 0 0] 67 (0, 0))) := Lib.hid ((k5.block g10 (lt_of_block V10d.out) hn5).trans V10d.out)
  have M5 := Lib.hid (E1d.out.many.keepR k5 EE.out.ne)
  clear k5
  rcases hret with ⟨ht5, rfl, r5⟩ | ⟨ht5, rfl, r5⟩
  case inr =>
    have R5 := Lib.hid r5
    have G2 : Hid (oneG L n rec k i left = .bad 3 (posAt L n (i + 1 + 1))) := Lib.hid (by rw [GB.out, tk_bad ht5]; rfl)
    clear r5 ht5
    obtain ⟨⟨c0, c1, c2, c3, c4, c5, c6, c7⟩, f0, f1, f2, f3, f4, f5, f6, f7⟩ := cells8R V8e.out
    go_wp2_with fail
    refine bodyPost_ret (v := .tuple #[.agg #[.int .i64 0, .string ⟨#[]⟩, .int .i64 0, .int .i64 0, .string ⟨#[]⟩, .slice none 0 0, .slice none 0 0, .slice none 0 0], .bool false]) (by simp [results, Tryd.results67, go_sem, c0, c1, c2, c3, c4, c5, c6, c7]) rfl ?_
    rw [G2.out]
    exact finB ⟨0, ⟨#[]⟩, 0, 0, ⟨#[]⟩, none, 0, 0, none, 0, 0, none, 0, 0⟩ HG8.out K5.out R5.out M5.out EE.out.as EE.out.lts.1 EE.out.lts.2
  have R5 := Lib.hid r5
  have G2 : Hid (oneG L n rec k i left = .ok (.mk k T zTm [] [], left) (i + 1 + 1 + 1)) := Lib.hid (by rw [GB.out, tk_ok ht5, bind_ok])
  clear r5 ht5
  obtain ⟨⟨c0, c1, c2, c3, c4, c5, c6, c7⟩, f0, f1, f2, f3, f4, f5, f6, f7⟩ := cells8R V8e.out
  obtain ⟨⟨a0, a1, a2, a3, a4, a5, a6, a7⟩, _⟩ := cells8R V10e.out
  go_wp2_with fail
  refine bodyPost_ret (v := .tuple #[.agg #[.int .i64 k, .string T, .int .i64 0, .int .i64 0, .string ⟨#[]⟩, .slice none 0 0, .slice none 0 0, .slice none 0 0], .bool true]) (by simp [results, Tryd.results67, go_sem, c0, c1, c2, c3, c4, c5, c6, c7]) rfl ?_
  rw [G2.out]
  exact finO (F := fun _ => False) ⟨k, T, 0, 0, ⟨#[]⟩, none, 0, 0, none, 0, 0, none, 0, 0⟩ HG8.out K5.out R5.out M5.out EE.out.as EE.out.lts.1 EE.out.lts.2 (stO_flatR (by have := HK.out; unfold i64in; omega) HSZ.out zTmO (fun _ h => h)) (fun _ h => h.elim) hml
set_option maxHeartbeats 3200000 in
set_option maxRecDepth 100000 in
theorem rd_stmt_many (r : Nat) (ih : NeC r) (d : Int) (W0 w : World) (rb mb : Nat) (A : Option Addr) (c n i : Nat) (L : List Sg) (m left : Nat) (ee : EnvR W0 w rb mb A c n i L m) (hml : m + left = 60) (k : Int) (hd : d + 1 = 6 - (r : Int)) (hd6 : d ≤ 6) (hk : k = 2 ∨ k = 3) (hlt : i < L.length) :
    Calls Tryd.prog 67 #[.pointer (some ⟨rb, 0, none⟩), .int .i64 k, .int .i64 d, .pointer (some ⟨mb, 0, none⟩)] w fun e w' => GotS1 w w' rb mb A c n L (oneG L n (rdS L n r) k i left) e := by
  rw [oneG_many hk]
  have IH := Lib.hid ih
  have HD := Lib.hid hd
  have HK := Lib.hid hk
  have hkb : k = 2 ∨ ((k == 2) = false ∧ k = 3) := by
    rcases hk with h | h
    · exact .inl h
    · exact .inr ⟨beq_eq_false_iff_ne.2 (by omega), h⟩
  clear ih hd hk
  have EE := Lib.hid ee
  have hrb := ee.lts.1
  have hmb := ee.lts.2
  have hi6 := ee.rd.hi
  have hL6 := ee.rd.hL
  clear ee
  rcases hkb with rfl | ⟨_, rfl⟩
  · go_enter Tryd.func67, Tryd.ntmps67
    have BA : Hid (Below w.heap.size w ((w.alloc (.cells #[.int .i64 0, .string ByteArray.empty, .int .i64 0, .int .i64 0, .string ByteArray.empty, .slice none 0 0, .slice none 0 0, .slice none 0 0] 67)).alloc (.cells #[.int .i64 2, .string ⟨#[]⟩, .int .i64 0, .int .i64 0, .string ⟨#[]⟩, .slice none 0 0, .slice none 0 0, .slice none 0 0] 67))) := Lib.hid (Below.alloc (Below.alloc (Below.refl _ _) (Nat.le_refl _) _) (by simp) _)
    have VA8 : Hid (((w.alloc (.cells #[.int .i64 0, .string ByteArray.empty, .int .i64 0, .int .i64 0, .string ByteArray.empty, .slice none 0 0, .slice none 0 0, .slice none 0 0] 67)).alloc (.cells #[.int .i64 2, .string ⟨#[]⟩, .int .i64 0, .int .i64 0, .string ⟨#[]⟩, .slice none 0 0, .slice none 0 0, .slice none 0 0] 67)).heap[w.heap.size]? = some (.cells #[.int .i64 0, .string ⟨#[]⟩, .int .i64 0, .int .i64 0, .string ⟨#[]⟩, .slice none 0 0, .slice none 0 0, .slice none 0 0] 67 (0, 0))) := Lib.hid ((heap_alloc_lt (by simp)).trans (heap_alloc_new _ _))
    have VA10 : Hid (((w.alloc (.cells #[.int .i64 0, .string ByteArray.empty, .int .i64 0, .int .i64 0, .string ByteArray.empty, .slice none 0 0, .slice none 0 0, .slice none 0 0] 67)).alloc (.cells #[.int .i64 2, .string ⟨#[]⟩, .int .i64 0, .int .i64 0, .string ⟨#[]⟩, .slice none 0 0, .slice none 0 0, .slice none 0 0] 67)).heap[w.heap.size + 1]? = some (.cells #[.int .i64 2, .string ⟨#[]⟩, .int .i64 0, .int .i64 0, .string ⟨#[]⟩, .slice none 0 0, .slice none 0 0, .slice none 0 0] 67 (0, 0))) := Lib.hid (by have := heap_alloc_new (w.alloc (.cells #[.int .i64 0, .string ByteArray.empty, .int .i64 0, .int .i64 0, .string ByteArray.empty, .slice none 0 0, .slice none 0 0, .slice none 0 0] 67)) (.cells #[.int .i64 2, .string ⟨#[]⟩, .int .i64 0, .int .i64 0, .string ⟨#[]⟩, .slice none 0 0, .slice none 0 0, .slice none 0 0] 67); simpa using this)
    go_wp2_with fail
    obtain ⟨wa, hwa⟩ : ∃ wa, ((w.alloc (.cells #[.int .i64 0, .string ByteArray.empty, .int .i64 0, .int .i64 0, .string ByteArray.empty, .slice none 0 0, .slice none 0 0, .slice none 0 0] 67)).alloc (.cells #[.int .i64 2, .string ⟨#[]⟩, .int .i64 0, .int .i64 0, .string ⟨#[]⟩, .slice none 0 0, .slice none 0 0, .slice none 0 0] 67)) = wa := ⟨_, rfl⟩
    have hza : wa.heap.size = w.heap.size + 2 := by rw [← hwa]; simp
    have hwa2 : ((w.alloc (.cells #[.int .i64 0, .string ⟨#[]⟩, .int .i64 0, .int .i64 0, .string ⟨#[]⟩, .slice none 0 0, .slice none 0 0, .slice none 0 0] 67)).alloc (.cells #[.int .i64 2, .string ⟨#[]⟩, .int .i64 0, .int .i64 0, .string ⟨#[]⟩, .slice none 0 0, .slice none 0 0, .slice none 0 0] 67)) = wa := hwa
    (try first | rw [hwa] | rw [hwa2])
    rw [hwa] at BA VA8 VA10
    clear hwa hwa2
    have EA := Lib.hid (EE.out.below BA.out)
    have KA : Hid (KeepM rb mb w wa) := Lib.hid (KeepM.of_below BA.out)
    obtain ⟨g8, hg8⟩ : ∃ g, w.heap.size = g := ⟨_, rfl⟩
    obtain ⟨g10, hg10⟩ : ∃ g, w.heap.size + 1 = g := ⟨_, rfl⟩
    have HG8 := Lib.hid hg8
    have HG10 := Lib.hid hg10
    have hn1 : ¬ g8 = g10 := by omega
    have hn2 : ¬ g10 = g8 := by omega
    have hn3 : ¬ g8 = rb := by omega
    have hn4 : ¬ rb = g8 := by omega
    have hn5 : ¬ g10 = rb := by omega
    have hn6 : ¬ rb = g10 := by omega
    have hn7 : ¬ g8 = mb := by omega
    have hn8 : ¬ g10 = mb := by omega
    have hlt10 : g10 < wa.heap.size := by omega
    have hlt8 : g8 < wa.heap.size := by omega
    have HA8 : Hid (∀ b o, A = some ⟨b, o, none⟩ → b ≠ g8) := Lib.hid (fun b o e => by have := EE.out.as b o e; omega)
    have HA10 : Hid (∀ b o, A = some ⟨b, o, none⟩ → b ≠ g10) := Lib.hid (fun b o e => by have := EE.out.as b o e; omega)
    have HW10 : Hid (W0.heap.size ≤ g10) := Lib.hid (by have := EE.out.base.size; omega)
    rw [hg8] at VA8
    rw [hg10] at VA10
    (try rw [hg10])
    (try rw [hg8])
    clear hg8 hg10
    refine (IH.out d W0 wa rb mb A c n i L m left 2 HD.out hd6 EA.out hml (by first | exact .inl rfl | exact .inr rfl) hlt).mono ?_
    intro e w1 hret
    obtain ⟨g, hg⟩ : ∃ g, nesG L n (rdS L n r) 2 i left = g := ⟨_, rfl⟩
    have GG := Lib.hid hg
    rw [hg] at hret
    clear hg
    cases g with
    | bad fc fp =>
      obtain ⟨k1, x, q, m', rfl, r1, mm⟩ := hret
      have K1 : Hid (KeepM rb mb w w1) := Lib.hid (KA.out.trans' k1)
      have R1 := Lib.hid r1
      have M1 := Lib.hid mm
      have V8 : Hid (w1.heap[g8]? = some (.cells #[.int .i64 0, .string ⟨#[]⟩, .int .i64 0, .int .i64 0, .string ⟨#[]⟩, .slice none 0 0, .slice none 0 0, .slice none 0 0] 67 (0, 0))) := Lib.hid ((k1.block g8 (by omega) ⟨hn3, hn7⟩).trans VA8.out)
      clear k1 r1 mm
      obtain ⟨⟨c0, c1, c2, c3, c4, c5, c6, c7⟩, f0, f1, f2, f3, f4, f5, f6, f7⟩ := cells8R V8.out
      go_wp2_with fail
      refine bodyPost_ret (v := .tuple #[.agg #[.int .i64 x.k, .string x.s, .int .i64 x.tk, .int .i64 x.tn, .string x.ts, .slice x.tA x.tm x.tc, .slice x.bA x.bm x.bc, .slice x.eA x.em x.ec], .bool false]) (by simp [results, Tryd.results67, go_sem, c0, c1, c2, c3, c4, c5, c6, c7]) rfl ?_
      rw [GG.out]
      exact finB x HG8.out K1.out R1.out M1.out EE.out.as EE.out.lts.1 EE.out.lts.2
    | ok b q =>
      obtain ⟨bl, lf⟩ := b
      obtain ⟨k1, x, m', rfl, so, r1, hm', mm⟩ := hret
      have K1 : Hid (KeepM rb mb w w1) := Lib.hid (KA.out.trans' k1)
      have R1 := Lib.hid r1
      have M1 := Lib.hid mm
      have SO := Lib.hid so
      have V8 : Hid (w1.heap[g8]? = some (.cells #[.int .i64 0, .string ⟨#[]⟩, .int .i64 0, .int .i64 0, .string ⟨#[]⟩, .slice none 0 0, .slice none 0 0, .slice none 0 0] 67 (0, 0))) := Lib.hid ((k1.block g8 (by omega) ⟨hn3, hn7⟩).trans VA8.out)
      clear k1 r1 mm so
      obtain ⟨⟨c0, c1, c2, c3, c4, c5, c6, c7⟩, f0, f1, f2, f3, f4, f5, f6, f7⟩ := cells8R V8.out
      go_wp2_with fail
      refine bodyPost_ret (v := .tuple #[.agg #[.int .i64 x.k, .string x.s, .int .i64 x.tk, .int .i64 x.tn, .string x.ts, .slice x.tA x.tm x.tc, .slice x.bA x.bm x.bc, .slice x.eA x.em x.ec], .bool true]) (by simp [results, Tryd.results67, go_sem, c0, c1, c2, c3, c4, c5, c6, c7]) rfl ?_
      rw [GG.out]
      exact finO (F := Made wa w1) x HG8.out K1.out R1.out M1.out EE.out.as EE.out.lts.1 EE.out.lts.2 SO.out (fun b h => ⟨by have := h.1; have := HG8.out; omega, h.2⟩) hm'
  · go_enter Tryd.func67, Tryd.ntmps67
    have BA : Hid (Below w.heap.size w ((w.alloc (.cells #[.int .i64 0, .string ByteArray.empty, .int .i64 0, .int .i64 0, .string ByteArray.empty, .slice none 0 0, .slice none 0 0, .slice none 0 0] 67)).alloc (.cells #[.int .i64 3, .string ⟨#[]⟩, .int .i64 0, .int .i64 0, .string ⟨#[]⟩, .slice none 0 0, .slice none 0 0, .slice none 0 0] 67))) := Lib.hid (Below.alloc (Below.alloc (Below.refl _ _) (Nat.le_refl _) _) (by simp) _)
    have VA8 : Hid (((w.alloc (.cells #[.int .i64 0, .string ByteArray.empty, .int .i64 0, .int .i64 0, .string ByteArray.empty, .slice none 0 0, .slice none 0 0, .slice none 0 0] 67)).alloc (.cells #[.int .i64 3, .string ⟨#[]⟩, .int .i64 0, .int .i64 0, .string ⟨#[]⟩, .slice none 0 0, .slice none 0 0, .slice none 0 0] 67)).heap[w.heap.size]? = some (.cells #[.int .i64 0, .string ⟨#[]⟩, .int .i64 0, .int .i64 0, .string ⟨#[]⟩, .slice none 0 0, .slice none 0 0, .slice none 0 0] 67 (0, 0))) := Lib.hid ((heap_alloc_lt (by simp)).trans (heap_alloc_new _ _))
    have VA10 : Hid (((w.alloc (.cells #[.int .i64 0, .string ByteArray.empty, .int .i64 0, .int .i64 0, .string ByteArray.empty, .slice none 0 0, .slice none 0 0, .slice none 0 0] 67)).alloc (.cells #[.int .i64 3, .string ⟨#[]⟩, .int .i64 0, .int .i64 0, .string ⟨#[]⟩, .slice none 0 0, .slice none 0 0, .slice none 0 0] 67)).heap[w.heap.size + 1]? = some (.cells #[.int .i64 3, .string ⟨#[]⟩, .int .i64 0, .int .i64 0, .string ⟨#[]⟩, .slice none 0 0, .slice none 0 0, .slice none 0 0] 67 (0, 0))) := Lib.hid (by have := heap_alloc_new (w.alloc (.cells #[.int .i64 0, .string ByteArray.empty, .int .i64 0, .int .i64 0, .string ByteArray.empty, .slice none 0 0, .slice none 0 0, .slice none 0 0] 67)) (.cells #[.int .i64 3, .string ⟨#[]⟩, .int .i64 0, .int .i64 0, .string ⟨#[]⟩, .slice none 0 0, .slice none 0 0, .slice none 0 0] 67); simpa using this)
    go_wp2_with fail
    obtain ⟨wa, hwa⟩ : ∃ wa, ((w.alloc (.cells #[.int .i64 0, .string ByteArray.empty, .int .i64 0, .int .i64 0, .string ByteArray.empty, .slice none 0 0, .slice none 0 0, .slice none 0 0] 67)).alloc (.cells #[.int .i64 3, .string ⟨#[]⟩, .int .i64 0, .int .i64 0, .string ⟨#[]⟩, .slice none 0 0, .slice none 0 0, .slice none 0 0] 67)) = wa := ⟨_, rfl⟩
    have hza : wa.heap.size = w.heap.size + 2 := by rw [← hwa]; simp
    have hwa2 : ((w.alloc (.cells #[.int .i64 0, .string ⟨#[]⟩, .int .i64 0, .int .i64 0, .string ⟨#[]⟩, .slice none 0 0, .slice none 0 0, .slice none 0 0] 67)).alloc (.cells #[.int .i64 3, .string ⟨#[]⟩, .int .i64 0, .int .i64 0, .string ⟨#[]⟩, .slice none 0 0, .slice none 0 0, .slice none 0 0] 67)) = wa := hwa
    (try first | rw [hwa] | rw [hwa2])
    rw [hwa] at BA VA8 VA10
    clear hwa hwa2
    have EA := Lib.hid (EE.out.below BA.out)
    have KA : Hid (KeepM rb mb w wa) := Lib.hid (KeepM.of_below BA.out)
    obtain ⟨g8, hg8⟩ : ∃ g, w.heap.size = g := ⟨_, rfl⟩
    obtain ⟨g10, hg10⟩ : ∃ g, w.heap.size + 1 = g := ⟨_, rfl⟩
    have HG8 := Lib.hid hg8
    have HG10 := Lib.hid hg10
    have hn1 : ¬ g8 = g10 := by omega
    have hn2 : ¬ g10 = g8 := by omega
    have hn3 : ¬ g8 = rb := by omega
    have hn4 : ¬ rb = g8 := by omega
    have hn5 : ¬ g10 = rb := by omega
    have hn6 : ¬ rb = g10 := by omega
    have hn7 : ¬ g8 = mb := by omega
    have hn8 : ¬ g10 = mb := by omega
    have hlt10 : g10 < wa.heap.size := by omega
    have hlt8 : g8 < wa.heap.size := by omega
    have HA8 : Hid (∀ b o, A = some ⟨b, o, none⟩ → b ≠ g8) := Lib.hid (fun b o e => by have := EE.out.as b o e; omega)
    have HA10 : Hid (∀ b o, A = some ⟨b, o, none⟩ → b ≠ g10) := Lib.hid (fun b o e => by have := EE.out.as b o e; omega)
    have HW10 : Hid (W0.heap.size ≤ g10) := Lib.hid (by have := EE.out.base.size; omega)
    rw [hg8] at VA8
    rw [hg10] at VA10
    (try rw [hg10])
    (try rw [hg8])
    clear hg8 hg10
    refine (IH.out d W0 wa rb mb A c n i L m left 3 HD.out hd6 EA.out hml (by first | exact .inl rfl | exact .inr rfl) hlt).mono ?_
    intro e w1 hret
    obtain ⟨g, hg⟩ : ∃ g, nesG L n (rdS L n r) 3 i left = g := ⟨_, rfl⟩
    have GG := Lib.hid hg
    rw [hg] at hret
    clear hg
    cases g with
    | bad fc fp =>
      obtain ⟨k1, x, q, m', rfl, r1, mm⟩ := hret
      have K1 : Hid (KeepM rb mb w w1) := Lib.hid (KA.out.trans' k1)
      have R1 := Lib.hid r1
      have M1 := Lib.hid mm
      have V8 : Hid (w1.heap[g8]? = some (.cells #[.int .i64 0, .string ⟨#[]⟩, .int .i64 0, .int .i64 0, .string ⟨#[]⟩, .slice none 0 0, .slice none 0 0, .slice none 0 0] 67 (0, 0))) := Lib.hid ((k1.block g8 (by omega) ⟨hn3, hn7⟩).trans VA8.out)
      clear k1 r1 mm
      obtain ⟨⟨c0, c1, c2, c3, c4, c5, c6, c7⟩, f0, f1, f2, f3, f4, f5, f6, f7⟩ := cells8R V8.out
      go_wp2_with fail
      refine bodyPost_ret (v := .tuple #[.agg #[.int .i64 x.k, .string x.s, .int .i64 x.tk, .int .i64 x.tn, .string x.ts, .slice x.tA x.tm x.tc, .slice x.bA x.bm x.bc, .slice x.eA x.em x.ec], .bool false]) (by simp [results, Tryd.results67, go_sem, c0, c1, c2, c3, c4, c5, c6, c7]) rfl ?_
      rw [GG.out]
      exact finB x HG8.out K1.out R1.out M1.out EE.out.as EE.out.lts.1 EE.out.lts.2
    | ok b q =>
      obtain ⟨bl, lf⟩ := b
      obtain ⟨k1, x, m', rfl, so, r1, hm', mm⟩ := hret
      have K1 : Hid (KeepM rb mb w w1) := Lib.hid (KA.out.trans' k1)
      have R1 := Lib.hid r1
      have M1 := Lib.hid mm
      have SO := Lib.hid so
      have V8 : Hid (w1.heap[g8]? = some (.cells #[.int .i64 0, .string ⟨#[]⟩, .int .i64 0, .int .i64 0, .string ⟨#[]⟩, .slice none 0 0, .slice none 0 0, .slice none 0 0] 67 (0, 0))) := Lib.hid ((k1.block g8 (by omega) ⟨hn3, hn7⟩).trans VA8.out)
      clear k1 r1 mm so
      obtain ⟨⟨c0, c1, c2, c3, c4, c5, c6, c7⟩, f0, f1, f2, f3, f4, f5, f6, f7⟩ := cells8R V8.out
      go_wp2_with fail
      refine bodyPost_ret (v := .tuple #[.agg #[.int .i64 x.k, .string x.s, .int .i64 x.tk, .int .i64 x.tn, .string x.ts, .slice x.tA x.tm x.tc, .slice x.bA x.bm x.bc, .slice x.eA x.em x.ec], .bool true]) (by simp [results, Tryd.results67, go_sem, c0, c1, c2, c3, c4, c5, c6, c7]) rfl ?_
      rw [GG.out]
      exact finO (F := Made wa w1) x HG8.out K1.out R1.out M1.out EE.out.as EE.out.lts.1 EE.out.lts.2 SO.out (fun b h => ⟨by have := h.1; have := HG8.out; omega, h.2⟩) hm'
/-- one statement -/
theorem rd_stmt_of (r : Nat) (ih : NeC r) : OnC r := by
  intro d W0 w rb mb A c n i L m left k hd hd6 ee hml hw h0
  have hlt : i < L.length := wordOf_lt (by rw [hw]; exact h0)
  rcases word_cases hw h0 with rfl | rfl | rfl | rfl | rfl | rfl | rfl | rfl
  · exact rd_stmt_set _ d W0 w rb mb A c n i L m left ee hml (word_one hw)
  · exact rd_stmt_many r ih d W0 w rb mb A c n i L m left ee hml 2 (hd (.inl rfl)) hd6 (.inl rfl) hlt
  · exact rd_stmt_many r ih d W0 w rb mb A c n i L m left ee hml 3 (hd (.inr rfl)) hd6 (.inr rfl) hlt
  · exact rd_stmt_word _ d W0 w rb mb A c n i L m left ee hml 4 (by omega) hlt
  · exact rd_stmt_word _ d W0 w rb mb A c n i L m left ee hml 5 (by omega) hlt
  · exact rd_stmt_word _ d W0 w rb mb A c n i L m left ee hml 6 (by omega) hlt
  · exact rd_stmt_word _ d W0 w rb mb A c n i L m left ee hml 7 (by omega) hlt
  · exact rd_stmt_skip _ d W0 w rb mb A c n i L m left ee hml hlt
end Go.Proofs.YtdanlgmpgdipnaaDoor
