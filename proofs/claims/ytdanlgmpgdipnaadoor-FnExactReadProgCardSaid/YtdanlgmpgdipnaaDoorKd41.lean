/- Several texts in one: RsSt1. -/
import Derived.Test.YtdanlgmpgdipnaaDoorKd37
namespace Go.Proofs.YtdanlgmpgdipnaaDoor
open Go.RowKit
set_option linter.unusedVariables false


set_option maxHeartbeats 6400000 in
set_option maxRecDepth 100000 in
theorem rs_stmt_deep2 (w : World) (rb : Nat) (A : Option Addr) (c n i : Nat) (L : List Sg) (lf : Int) (hs : SgsOk L) (hA : ∀ b o, A = some ⟨b, o, none⟩ → b < w.heap.size) (h : RsAt w rb A c n i L 0 0 lf) (hw : wordOf L i = 2) :
    Calls Tryd.prog 28 #[.pointer (some ⟨rb, 0, none⟩), .int .i64 0] w fun e w' => GsS1 w w' rb A c n L (.bad 4 (posAt L n i)) e := by
  have HI : Hid (decide (tx L i = ⟨#[105, 102]⟩) = true) := Lib.hid (decide_eq_true (wd_word (by omega) hw).1)
  clear hw
  have HF : Hid (¬ (4 : Int) = 0) := Lib.hid (by decide)
  have RR := Lib.hid h
  have HS := Lib.hid hs
  have HA := Lib.hid hA
  have hrb := h.lt
  have hi6 := h.hi
  have hL6 := h.hL
  clear h hs hA
  go_enter Tryd.func28, Tryd.ntmps28
  go_wp2_with fail
  have BA : Hid (Below w.heap.size w ((w.alloc (.cells #[.int .i64 0, .string ByteArray.empty, .int .i64 0, .int .i64 0, .string ByteArray.empty, .slice none 0 0, .slice none 0 0, .slice none 0 0] 67)).alloc (.cells #[.int .i64 0, .string ⟨#[]⟩, .int .i64 0, .int .i64 0, .string ⟨#[]⟩, .slice none 0 0, .slice none 0 0, .slice none 0 0] 67))) := Lib.hid (Below.alloc (Below.alloc (Below.refl _ _) (Nat.le_refl _) _) (by simp) _)
  have V4 : Hid (((w.alloc (.cells #[.int .i64 0, .string ByteArray.empty, .int .i64 0, .int .i64 0, .string ByteArray.empty, .slice none 0 0, .slice none 0 0, .slice none 0 0] 67)).alloc (.cells #[.int .i64 0, .string ⟨#[]⟩, .int .i64 0, .int .i64 0, .string ⟨#[]⟩, .slice none 0 0, .slice none 0 0, .slice none 0 0] 67)).heap[w.heap.size]? = some (.cells #[.int .i64 0, .string ⟨#[]⟩, .int .i64 0, .int .i64 0, .string ⟨#[]⟩, .slice none 0 0, .slice none 0 0, .slice none 0 0] 67 (0, 0))) := Lib.hid ((heap_alloc_lt (by simp)).trans (heap_alloc_new _ _))
  have V5 : Hid (((w.alloc (.cells #[.int .i64 0, .string ByteArray.empty, .int .i64 0, .int .i64 0, .string ByteArray.empty, .slice none 0 0, .slice none 0 0, .slice none 0 0] 67)).alloc (.cells #[.int .i64 0, .string ⟨#[]⟩, .int .i64 0, .int .i64 0, .string ⟨#[]⟩, .slice none 0 0, .slice none 0 0, .slice none 0 0] 67)).heap[w.heap.size + 1]? = some (.cells #[.int .i64 0, .string ⟨#[]⟩, .int .i64 0, .int .i64 0, .string ⟨#[]⟩, .slice none 0 0, .slice none 0 0, .slice none 0 0] 67 (0, 0))) := Lib.hid (by have := heap_alloc_new (w.alloc (.cells #[.int .i64 0, .string ByteArray.empty, .int .i64 0, .int .i64 0, .string ByteArray.empty, .slice none 0 0, .slice none 0 0, .slice none 0 0] 67)) (.cells #[.int .i64 0, .string ⟨#[]⟩, .int .i64 0, .int .i64 0, .string ⟨#[]⟩, .slice none 0 0, .slice none 0 0, .slice none 0 0] 67); simpa using this)
  obtain ⟨wa, hwa⟩ : ∃ wa, ((w.alloc (.cells #[.int .i64 0, .string ByteArray.empty, .int .i64 0, .int .i64 0, .string ByteArray.empty, .slice none 0 0, .slice none 0 0, .slice none 0 0] 67)).alloc (.cells #[.int .i64 0, .string ⟨#[]⟩, .int .i64 0, .int .i64 0, .string ⟨#[]⟩, .slice none 0 0, .slice none 0 0, .slice none 0 0] 67)) = wa := ⟨_, rfl⟩
  have hza : wa.heap.size = w.heap.size + 2 := by rw [← hwa]; simp
  have hwa2 : ((w.alloc (.cells #[.int .i64 0, .string ⟨#[]⟩, .int .i64 0, .int .i64 0, .string ⟨#[]⟩, .slice none 0 0, .slice none 0 0, .slice none 0 0] 67)).alloc (.cells #[.int .i64 0, .string ⟨#[]⟩, .int .i64 0, .int .i64 0, .string ⟨#[]⟩, .slice none 0 0, .slice none 0 0, .slice none 0 0] 67)) = wa := hwa
  have hwa3 : ((w.alloc (.cells #[.int .i64 0, .string ByteArray.empty, .int .i64 0, .int .i64 0, .string ByteArray.empty, .slice none 0 0, .slice none 0 0, .slice none 0 0] 67)).alloc (.cells #[.int .i64 0, .string ByteArray.empty, .int .i64 0, .int .i64 0, .string ByteArray.empty, .slice none 0 0, .slice none 0 0, .slice none 0 0] 67)) = wa := hwa
  (first | rw [hwa] | rw [hwa2] | rw [hwa3])
  rw [hwa] at BA V4 V5
  clear hwa hwa2 hwa3
  replace RR := Lib.hid (RR.out.below BA.out)
  have KK : Hid (KeepR rb w wa) := Lib.hid (KeepR.of_below' BA.out)
  obtain ⟨g4, hg4⟩ : ∃ g, w.heap.size = g := ⟨_, rfl⟩
  obtain ⟨g5, hg5⟩ : ∃ g, w.heap.size + 1 = g := ⟨_, rfl⟩
  have HG4 := Lib.hid hg4
  have HG5 := Lib.hid hg5
  have hn45 : ¬ g4 = g5 := by omega
  have hn54 : ¬ g5 = g4 := by omega
  have hn4r : ¬ g4 = rb := by omega
  have hnr4 : ¬ rb = g4 := by omega
  have hn5r : ¬ g5 = rb := by omega
  have hnr5 : ¬ rb = g5 := by omega
  have HA4 : Hid (∀ b o, A = some ⟨b, o, none⟩ → b ≠ g4) := Lib.hid (fun b o e => by have := HA.out b o e; omega)
  have HA5 : Hid (∀ b o, A = some ⟨b, o, none⟩ → b ≠ g5) := Lib.hid (fun b o e => by have := HA.out b o e; omega)
  rw [hg4] at V4
  rw [hg5] at V5
  (try rw [hg5])
  (try rw [hg4])
  clear hg4 hg5 BA
  refine (rs_is ⟨#[105, 102]⟩ _ rb A c n i L 0 0 lf RR.out (by decide)).mono ?_
  rintro e u1 ⟨rfl, bu1⟩
  rw [kd1, HI.out]
  replace RR := Lib.hid (RR.out.below bu1)
  replace KK := Lib.hid (KeepR.trans' KK.out (KeepR.of_below' bu1))
  replace V4 := Lib.hid ((bu1.block g4 (lt_of_block V4.out)).trans V4.out)
  replace V5 := Lib.hid ((bu1.block g5 (lt_of_block V5.out)).trans V5.out)
  clear bu1
  go_wp2_with fail
  refine (rs_bad 4 _ rb A c n i L 0 lf RR.out).mono ?_
  rintro e u2 ⟨rfl, ru2, ku2⟩
  replace RR := Lib.hid ru2
  replace KK := Lib.hid (KeepR.trans' KK.out ku2)
  replace V4 := Lib.hid ((ku2.block g4 (lt_of_block V4.out) hn4r).trans V4.out)
  replace V5 := Lib.hid ((ku2.block g5 (lt_of_block V5.out) hn5r).trans V5.out)
  clear ku2 ru2
  obtain ⟨⟨c0, c1, c2, c3, c4, c5, c6, c7⟩, f0, f1, f2, f3, f4, f5, f6, f7⟩ := cells8R V4.out
  obtain ⟨⟨a0, a1, a2, a3, a4, a5, a6, a7⟩, _⟩ := cells8R V5.out
  have hz4 := lt_of_block V4.out
  have hz5 := lt_of_block V5.out
  go_wp2_with fail
  refine bodyPost_ret (v := .agg #[.int .i64 0, .string ⟨#[]⟩, .int .i64 0, .int .i64 0, .string ⟨#[]⟩, .slice none 0 0, .slice none 0 0, .slice none 0 0]) (by simp [results, Tryd.results28, go_sem, c0, c1, c2, c3, c4, c5, c6, c7]) rfl ?_
  exact finRB ⟨0, ⟨#[]⟩, 0, 0, ⟨#[]⟩, none, 0, 0, none, 0, 0, none, 0, 0⟩ HG4.out KK.out RR.out HF.out HA4.out hn4r
set_option maxHeartbeats 6400000 in
set_option maxRecDepth 100000 in
theorem rs_stmt_deep3 (w : World) (rb : Nat) (A : Option Addr) (c n i : Nat) (L : List Sg) (lf : Int) (hs : SgsOk L) (hA : ∀ b o, A = some ⟨b, o, none⟩ → b < w.heap.size) (h : RsAt w rb A c n i L 0 0 lf) (hw : wordOf L i = 3) :
    Calls Tryd.prog 28 #[.pointer (some ⟨rb, 0, none⟩), .int .i64 0] w fun e w' => GsS1 w w' rb A c n L (.bad 4 (posAt L n i)) e := by
  have HI : Hid (decide (tx L i = ⟨#[105, 102]⟩) = false) := Lib.hid (decide_eq_false (fun e => by have := word_wd (k := 2) (by decide) e; omega))
  have HW : Hid (decide (tx L i = ⟨#[119, 104, 105, 108, 101]⟩) = true) := Lib.hid (decide_eq_true (wd_word (by omega) hw).1)
  clear hw
  have HF : Hid (¬ (4 : Int) = 0) := Lib.hid (by decide)
  have RR := Lib.hid h
  have HS := Lib.hid hs
  have HA := Lib.hid hA
  have hrb := h.lt
  have hi6 := h.hi
  have hL6 := h.hL
  clear h hs hA
  go_enter Tryd.func28, Tryd.ntmps28
  go_wp2_with fail
  have BA : Hid (Below w.heap.size w ((w.alloc (.cells #[.int .i64 0, .string ByteArray.empty, .int .i64 0, .int .i64 0, .string ByteArray.empty, .slice none 0 0, .slice none 0 0, .slice none 0 0] 67)).alloc (.cells #[.int .i64 0, .string ⟨#[]⟩, .int .i64 0, .int .i64 0, .string ⟨#[]⟩, .slice none 0 0, .slice none 0 0, .slice none 0 0] 67))) := Lib.hid (Below.alloc (Below.alloc (Below.refl _ _) (Nat.le_refl _) _) (by simp) _)
  have V4 : Hid (((w.alloc (.cells #[.int .i64 0, .string ByteArray.empty, .int .i64 0, .int .i64 0, .string ByteArray.empty, .slice none 0 0, .slice none 0 0, .slice none 0 0] 67)).alloc (.cells #[.int .i64 0, .string ⟨#[]⟩, .int .i64 0, .int .i64 0, .string ⟨#[]⟩, .slice none 0 0, .slice none 0 0, .slice none 0 0] 67)).heap[w.heap.size]? = some (.cells #[.int .i64 0, .string ⟨#[]⟩, .int .i64 0, .int .i64 0, .string ⟨#[]⟩, .slice none 0 0, .slice none 0 0, .slice none 0 0] 67 (0, 0))) := Lib.hid ((heap_alloc_lt (by simp)).trans (heap_alloc_new _ _))
  have V5 : Hid (((w.alloc (.cells #[.int .i64 0, .string ByteArray.empty, .int .i64 0, .int .i64 0, .string ByteArray.empty, .slice none 0 0, .slice none 0 0, .slice none 0 0] 67)).alloc (.cells #[.int .i64 0, .string ⟨#[]⟩, .int .i64 0, .int .i64 0, .string ⟨#[]⟩, .slice none 0 0, .slice none 0 0, .slice none 0 0] 67)).heap[w.heap.size + 1]? = some (.cells #[.int .i64 0, .string ⟨#[]⟩, .int .i64 0, .int .i64 0, .string ⟨#[]⟩, .slice none 0 0, .slice none 0 0, .slice none 0 0] 67 (0, 0))) := Lib.hid (by have := heap_alloc_new (w.alloc (.cells #[.int .i64 0, .string ByteArray.empty, .int .i64 0, .int .i64 0, .string ByteArray.empty, .slice none 0 0, .slice none 0 0, .slice none 0 0] 67)) (.cells #[.int .i64 0, .string ⟨#[]⟩, .int .i64 0, .int .i64 0, .string ⟨#[]⟩, .slice none 0 0, .slice none 0 0, .slice none 0 0] 67); simpa using this)
  obtain ⟨wa, hwa⟩ : ∃ wa, ((w.alloc (.cells #[.int .i64 0, .string ByteArray.empty, .int .i64 0, .int .i64 0, .string ByteArray.empty, .slice none 0 0, .slice none 0 0, .slice none 0 0] 67)).alloc (.cells #[.int .i64 0, .string ⟨#[]⟩, .int .i64 0, .int .i64 0, .string ⟨#[]⟩, .slice none 0 0, .slice none 0 0, .slice none 0 0] 67)) = wa := ⟨_, rfl⟩
  have hza : wa.heap.size = w.heap.size + 2 := by rw [← hwa]; simp
  have hwa2 : ((w.alloc (.cells #[.int .i64 0, .string ⟨#[]⟩, .int .i64 0, .int .i64 0, .string ⟨#[]⟩, .slice none 0 0, .slice none 0 0, .slice none 0 0] 67)).alloc (.cells #[.int .i64 0, .string ⟨#[]⟩, .int .i64 0, .int .i64 0, .string ⟨#[]⟩, .slice none 0 0, .slice none 0 0, .slice none 0 0] 67)) = wa := hwa
  have hwa3 : ((w.alloc (.cells #[.int .i64 0, .string ByteArray.empty, .int .i64 0, .int .i64 0, .string ByteArray.empty, .slice none 0 0, .slice none 0 0, .slice none 0 0] 67)).alloc (.cells #[.int .i64 0, .string ByteArray.empty, .int .i64 0, .int .i64 0, .string ByteArray.empty, .slice none 0 0, .slice none 0 0, .slice none 0 0] 67)) = wa := hwa
  (first | rw [hwa] | rw [hwa2] | rw [hwa3])
  rw [hwa] at BA V4 V5
  clear hwa hwa2 hwa3
  replace RR := Lib.hid (RR.out.below BA.out)
  have KK : Hid (KeepR rb w wa) := Lib.hid (KeepR.of_below' BA.out)
  obtain ⟨g4, hg4⟩ : ∃ g, w.heap.size = g := ⟨_, rfl⟩
  obtain ⟨g5, hg5⟩ : ∃ g, w.heap.size + 1 = g := ⟨_, rfl⟩
  have HG4 := Lib.hid hg4
  have HG5 := Lib.hid hg5
  have hn45 : ¬ g4 = g5 := by omega
  have hn54 : ¬ g5 = g4 := by omega
  have hn4r : ¬ g4 = rb := by omega
  have hnr4 : ¬ rb = g4 := by omega
  have hn5r : ¬ g5 = rb := by omega
  have hnr5 : ¬ rb = g5 := by omega
  have HA4 : Hid (∀ b o, A = some ⟨b, o, none⟩ → b ≠ g4) := Lib.hid (fun b o e => by have := HA.out b o e; omega)
  have HA5 : Hid (∀ b o, A = some ⟨b, o, none⟩ → b ≠ g5) := Lib.hid (fun b o e => by have := HA.out b o e; omega)
  rw [hg4] at V4
  rw [hg5] at V5
  (try rw [hg5])
  (try rw [hg4])
  clear hg4 hg5 BA
  refine (rs_is ⟨#[105, 102]⟩ _ rb A c n i L 0 0 lf RR.out (by decide)).mono ?_
  rintro e u1 ⟨rfl, bu1⟩
  rw [kd1, HI.out]
  replace RR := Lib.hid (RR.out.below bu1)
  replace KK := Lib.hid (KeepR.trans' KK.out (KeepR.of_below' bu1))
  replace V4 := Lib.hid ((bu1.block g4 (lt_of_block V4.out)).trans V4.out)
  replace V5 := Lib.hid ((bu1.block g5 (lt_of_block V5.out)).trans V5.out)
  clear bu1
  go_wp2_with fail
  refine (rs_is ⟨#[119, 104, 105, 108, 101]⟩ _ rb A c n i L 0 0 lf RR.out (by decide)).mono ?_
  rintro e u2 ⟨rfl, bu2⟩
  rw [kd1, HW.out]
  replace RR := Lib.hid (RR.out.below bu2)
  replace KK := Lib.hid (KeepR.trans' KK.out (KeepR.of_below' bu2))
  replace V4 := Lib.hid ((bu2.block g4 (lt_of_block V4.out)).trans V4.out)
  replace V5 := Lib.hid ((bu2.block g5 (lt_of_block V5.out)).trans V5.out)
  clear bu2
  go_wp2_with fail
  refine (rs_bad 4 _ rb A c n i L 0 lf RR.out).mono ?_
  rintro e u3 ⟨rfl, ru3, ku3⟩
  replace RR := Lib.hid ru3
  replace KK := Lib.hid (KeepR.trans' KK.out ku3)
  replace V4 := Lib.hid ((ku3.block g4 (lt_of_block V4.out) hn4r).trans V4.out)
  replace V5 := Lib.hid ((ku3.block g5 (lt_of_block V5.out) hn5r).trans V5.out)
  clear ku3 ru3
  obtain ⟨⟨c0, c1, c2, c3, c4, c5, c6, c7⟩, f0, f1, f2, f3, f4, f5, f6, f7⟩ := cells8R V4.out
  obtain ⟨⟨a0, a1, a2, a3, a4, a5, a6, a7⟩, _⟩ := cells8R V5.out
  have hz4 := lt_of_block V4.out
  have hz5 := lt_of_block V5.out
  go_wp2_with fail
  refine bodyPost_ret (v := .agg #[.int .i64 0, .string ⟨#[]⟩, .int .i64 0, .int .i64 0, .string ⟨#[]⟩, .slice none 0 0, .slice none 0 0, .slice none 0 0]) (by simp [results, Tryd.results28, go_sem, c0, c1, c2, c3, c4, c5, c6, c7]) rfl ?_
  exact finRB ⟨0, ⟨#[]⟩, 0, 0, ⟨#[]⟩, none, 0, 0, none, 0, 0, none, 0, 0⟩ HG4.out KK.out RR.out HF.out HA4.out hn4r
set_option maxHeartbeats 6400000 in
set_option maxRecDepth 100000 in
theorem rs_stmt_full2 (w : World) (rb : Nat) (A : Option Addr) (c n i : Nat) (L : List Sg) (room : Int) (hs : SgsOk L) (hA : ∀ b o, A = some ⟨b, o, none⟩ → b < w.heap.size) (h : RsAt w rb A c n i L 0 0 0) (hw : wordOf L i = 2) (hroom : ¬ room = 0) :
    Calls Tryd.prog 28 #[.pointer (some ⟨rb, 0, none⟩), .int .i64 room] w fun e w' => GsS1 w w' rb A c n L (.bad 5 (posAt L n i)) e := by
  have HI : Hid (decide (tx L i = ⟨#[105, 102]⟩) = true) := Lib.hid (decide_eq_true (wd_word (by omega) hw).1)
  clear hw
  have HF : Hid (¬ (5 : Int) = 0) := Lib.hid (by decide)
  have hr0 : (room == 0) = false := beq_eq_false_iff_ne.2 hroom
  have RR := Lib.hid h
  have HS := Lib.hid hs
  have HA := Lib.hid hA
  have hrb := h.lt
  have hi6 := h.hi
  have hL6 := h.hL
  clear h hs hA
  go_enter Tryd.func28, Tryd.ntmps28
  go_wp2_with fail
  have BA : Hid (Below w.heap.size w ((w.alloc (.cells #[.int .i64 0, .string ByteArray.empty, .int .i64 0, .int .i64 0, .string ByteArray.empty, .slice none 0 0, .slice none 0 0, .slice none 0 0] 67)).alloc (.cells #[.int .i64 0, .string ⟨#[]⟩, .int .i64 0, .int .i64 0, .string ⟨#[]⟩, .slice none 0 0, .slice none 0 0, .slice none 0 0] 67))) := Lib.hid (Below.alloc (Below.alloc (Below.refl _ _) (Nat.le_refl _) _) (by simp) _)
  have V4 : Hid (((w.alloc (.cells #[.int .i64 0, .string ByteArray.empty, .int .i64 0, .int .i64 0, .string ByteArray.empty, .slice none 0 0, .slice none 0 0, .slice none 0 0] 67)).alloc (.cells #[.int .i64 0, .string ⟨#[]⟩, .int .i64 0, .int .i64 0, .string ⟨#[]⟩, .slice none 0 0, .slice none 0 0, .slice none 0 0] 67)).heap[w.heap.size]? = some (.cells #[.int .i64 0, .string ⟨#[]⟩, .int .i64 0, .int .i64 0, .string ⟨#[]⟩, .slice none 0 0, .slice none 0 0, .slice none 0 0] 67 (0, 0))) := Lib.hid ((heap_alloc_lt (by simp)).trans (heap_alloc_new _ _))
  have V5 : Hid (((w.alloc (.cells #[.int .i64 0, .string ByteArray.empty, .int .i64 0, .int .i64 0, .string ByteArray.empty, .slice none 0 0, .slice none 0 0, .slice none 0 0] 67)).alloc (.cells #[.int .i64 0, .string ⟨#[]⟩, .int .i64 0, .int .i64 0, .string ⟨#[]⟩, .slice none 0 0, .slice none 0 0, .slice none 0 0] 67)).heap[w.heap.size + 1]? = some (.cells #[.int .i64 0, .string ⟨#[]⟩, .int .i64 0, .int .i64 0, .string ⟨#[]⟩, .slice none 0 0, .slice none 0 0, .slice none 0 0] 67 (0, 0))) := Lib.hid (by have := heap_alloc_new (w.alloc (.cells #[.int .i64 0, .string ByteArray.empty, .int .i64 0, .int .i64 0, .string ByteArray.empty, .slice none 0 0, .slice none 0 0, .slice none 0 0] 67)) (.cells #[.int .i64 0, .string ⟨#[]⟩, .int .i64 0, .int .i64 0, .string ⟨#[]⟩, .slice none 0 0, .slice none 0 0, .slice none 0 0] 67); simpa using this)
  obtain ⟨wa, hwa⟩ : ∃ wa, ((w.alloc (.cells #[.int .i64 0, .string ByteArray.empty, .int .i64 0, .int .i64 0, .string ByteArray.empty, .slice none 0 0, .slice none 0 0, .slice none 0 0] 67)).alloc (.cells #[.int .i64 0, .string ⟨#[]⟩, .int .i64 0, .int .i64 0, .string ⟨#[]⟩, .slice none 0 0, .slice none 0 0, .slice none 0 0] 67)) = wa := ⟨_, rfl⟩
  have hza : wa.heap.size = w.heap.size + 2 := by rw [← hwa]; simp
  have hwa2 : ((w.alloc (.cells #[.int .i64 0, .string ⟨#[]⟩, .int .i64 0, .int .i64 0, .string ⟨#[]⟩, .slice none 0 0, .slice none 0 0, .slice none 0 0] 67)).alloc (.cells #[.int .i64 0, .string ⟨#[]⟩, .int .i64 0, .int .i64 0, .string ⟨#[]⟩, .slice none 0 0, .slice none 0 0, .slice none 0 0] 67)) = wa := hwa
  have hwa3 : ((w.alloc (.cells #[.int .i64 0, .string ByteArray.empty, .int .i64 0, .int .i64 0, .string ByteArray.empty, .slice none 0 0, .slice none 0 0, .slice none 0 0] 67)).alloc (.cells #[.int .i64 0, .string ByteArray.empty, .int .i64 0, .int .i64 0, .string ByteArray.empty, .slice none 0 0, .slice none 0 0, .slice none 0 0] 67)) = wa := hwa
  (first | rw [hwa] | rw [hwa2] | rw [hwa3])
  rw [hwa] at BA V4 V5
  clear hwa hwa2 hwa3
  replace RR := Lib.hid (RR.out.below BA.out)
  have KK : Hid (KeepR rb w wa) := Lib.hid (KeepR.of_below' BA.out)
  obtain ⟨g4, hg4⟩ : ∃ g, w.heap.size = g := ⟨_, rfl⟩
  obtain ⟨g5, hg5⟩ : ∃ g, w.heap.size + 1 = g := ⟨_, rfl⟩
  have HG4 := Lib.hid hg4
  have HG5 := Lib.hid hg5
  have hn45 : ¬ g4 = g5 := by omega
  have hn54 : ¬ g5 = g4 := by omega
  have hn4r : ¬ g4 = rb := by omega
  have hnr4 : ¬ rb = g4 := by omega
  have hn5r : ¬ g5 = rb := by omega
  have hnr5 : ¬ rb = g5 := by omega
  have HA4 : Hid (∀ b o, A = some ⟨b, o, none⟩ → b ≠ g4) := Lib.hid (fun b o e => by have := HA.out b o e; omega)
  have HA5 : Hid (∀ b o, A = some ⟨b, o, none⟩ → b ≠ g5) := Lib.hid (fun b o e => by have := HA.out b o e; omega)
  rw [hg4] at V4
  rw [hg5] at V5
  (try rw [hg5])
  (try rw [hg4])
  clear hg4 hg5 BA
  refine (rs_is ⟨#[105, 102]⟩ _ rb A c n i L 0 0 0 RR.out (by decide)).mono ?_
  rintro e u1 ⟨rfl, bu1⟩
  rw [kd1, HI.out]
  replace RR := Lib.hid (RR.out.below bu1)
  replace KK := Lib.hid (KeepR.trans' KK.out (KeepR.of_below' bu1))
  replace V4 := Lib.hid ((bu1.block g4 (lt_of_block V4.out)).trans V4.out)
  replace V5 := Lib.hid ((bu1.block g5 (lt_of_block V5.out)).trans V5.out)
  clear bu1
  obtain ⟨_, _, _, _, _, p5⟩ := RR.out.cs
  go_wp2_with fail
  refine (rs_bad 5 _ rb A c n i L 0 0 RR.out).mono ?_
  rintro e u2 ⟨rfl, ru2, ku2⟩
  clear p5
  replace RR := Lib.hid ru2
  replace KK := Lib.hid (KeepR.trans' KK.out ku2)
  replace V4 := Lib.hid ((ku2.block g4 (lt_of_block V4.out) hn4r).trans V4.out)
  replace V5 := Lib.hid ((ku2.block g5 (lt_of_block V5.out) hn5r).trans V5.out)
  clear ku2 ru2
  obtain ⟨⟨c0, c1, c2, c3, c4, c5, c6, c7⟩, f0, f1, f2, f3, f4, f5, f6, f7⟩ := cells8R V4.out
  obtain ⟨⟨a0, a1, a2, a3, a4, a5, a6, a7⟩, _⟩ := cells8R V5.out
  have hz4 := lt_of_block V4.out
  have hz5 := lt_of_block V5.out
  go_wp2_with fail
  refine bodyPost_ret (v := .agg #[.int .i64 0, .string ⟨#[]⟩, .int .i64 0, .int .i64 0, .string ⟨#[]⟩, .slice none 0 0, .slice none 0 0, .slice none 0 0]) (by simp [results, Tryd.results28, go_sem, c0, c1, c2, c3, c4, c5, c6, c7]) rfl ?_
  exact finRB ⟨0, ⟨#[]⟩, 0, 0, ⟨#[]⟩, none, 0, 0, none, 0, 0, none, 0, 0⟩ HG4.out KK.out RR.out HF.out HA4.out hn4r
set_option maxHeartbeats 6400000 in
set_option maxRecDepth 100000 in
theorem rs_stmt_full3 (w : World) (rb : Nat) (A : Option Addr) (c n i : Nat) (L : List Sg) (room : Int) (hs : SgsOk L) (hA : ∀ b o, A = some ⟨b, o, none⟩ → b < w.heap.size) (h : RsAt w rb A c n i L 0 0 0) (hw : wordOf L i = 3) (hroom : ¬ room = 0) :
    Calls Tryd.prog 28 #[.pointer (some ⟨rb, 0, none⟩), .int .i64 room] w fun e w' => GsS1 w w' rb A c n L (.bad 5 (posAt L n i)) e := by
  have HI : Hid (decide (tx L i = ⟨#[105, 102]⟩) = false) := Lib.hid (decide_eq_false (fun e => by have := word_wd (k := 2) (by decide) e; omega))
  have HW : Hid (decide (tx L i = ⟨#[119, 104, 105, 108, 101]⟩) = true) := Lib.hid (decide_eq_true (wd_word (by omega) hw).1)
  clear hw
  have HF : Hid (¬ (5 : Int) = 0) := Lib.hid (by decide)
  have hr0 : (room == 0) = false := beq_eq_false_iff_ne.2 hroom
  have RR := Lib.hid h
  have HS := Lib.hid hs
  have HA := Lib.hid hA
  have hrb := h.lt
  have hi6 := h.hi
  have hL6 := h.hL
  clear h hs hA
  go_enter Tryd.func28, Tryd.ntmps28
  go_wp2_with fail
  have BA : Hid (Below w.heap.size w ((w.alloc (.cells #[.int .i64 0, .string ByteArray.empty, .int .i64 0, .int .i64 0, .string ByteArray.empty, .slice none 0 0, .slice none 0 0, .slice none 0 0] 67)).alloc (.cells #[.int .i64 0, .string ⟨#[]⟩, .int .i64 0, .int .i64 0, .string ⟨#[]⟩, .slice none 0 0, .slice none 0 0, .slice none 0 0] 67))) := Lib.hid (Below.alloc (Below.alloc (Below.refl _ _) (Nat.le_refl _) _) (by simp) _)
  have V4 : Hid (((w.alloc (.cells #[.int .i64 0, .string ByteArray.empty, .int .i64 0, .int .i64 0, .string ByteArray.empty, .slice none 0 0, .slice none 0 0, .slice none 0 0] 67)).alloc (.cells #[.int .i64 0, .string ⟨#[]⟩, .int .i64 0, .int .i64 0, .string ⟨#[]⟩, .slice none 0 0, .slice none 0 0, .slice none 0 0] 67)).heap[w.heap.size]? = some (.cells #[.int .i64 0, .string ⟨#[]⟩, .int .i64 0, .int .i64 0, .string ⟨#[]⟩, .slice none 0 0, .slice none 0 0, .slice none 0 0] 67 (0, 0))) := Lib.hid ((heap_alloc_lt (by simp)).trans (heap_alloc_new _ _))
  have V5 : Hid (((w.alloc (.cells #[.int .i64 0, .string ByteArray.empty, .int .i64 0, .int .i64 0, .string ByteArray.empty, .slice none 0 0, .slice none 0 0, .slice none 0 0] 67)).alloc (.cells #[.int .i64 0, .string ⟨#[]⟩, .int .i64 0, .int .i64 0, .string ⟨#[]⟩, .slice none 0 0, .slice none 0 0, .slice none 0 0] 67)).heap[w.heap.size + 1]? = some (.cells #[.int .i64 0, .string ⟨#[]⟩, .int .i64 0, .int .i64 0, .string ⟨#[]⟩, .slice none 0 0, .slice none 0 0, .slice none 0 0] 67 (0, 0))) := Lib.hid (by have := heap_alloc_new (w.alloc (.cells #[.int .i64 0, .string ByteArray.empty, .int .i64 0, .int .i64 0, .string ByteArray.empty, .slice none 0 0, .slice none 0 0, .slice none 0 0] 67)) (.cells #[.int .i64 0, .string ⟨#[]⟩, .int .i64 0, .int .i64 0, .string ⟨#[]⟩, .slice none 0 0, .slice none 0 0, .slice none 0 0] 67); simpa using this)
  obtain ⟨wa, hwa⟩ : ∃ wa, ((w.alloc (.cells #[.int .i64 0, .string ByteArray.empty, .int .i64 0, .int .i64 0, .string ByteArray.empty, .slice none 0 0, .slice none 0 0, .slice none 0 0] 67)).alloc (.cells #[.int .i64 0, .string ⟨#[]⟩, .int .i64 0, .int .i64 0, .string ⟨#[]⟩, .slice none 0 0, .slice none 0 0, .slice none 0 0] 67)) = wa := ⟨_, rfl⟩
  have hza : wa.heap.size = w.heap.size + 2 := by rw [← hwa]; simp
  have hwa2 : ((w.alloc (.cells #[.int .i64 0, .string ⟨#[]⟩, .int .i64 0, .int .i64 0, .string ⟨#[]⟩, .slice none 0 0, .slice none 0 0, .slice none 0 0] 67)).alloc (.cells #[.int .i64 0, .string ⟨#[]⟩, .int .i64 0, .int .i64 0, .string ⟨#[]⟩, .slice none 0 0, .slice none 0 0, .slice none 0 0] 67)) = wa := hwa
  have hwa3 : ((w.alloc (.cells #[.int .i64 0, .string ByteArray.empty, .int .i64 0, .int .i64 0, .string ByteArray.empty, .slice none 0 0, .slice none 0 0, .slice none 0 0] 67)).alloc (.cells #[.int .i64 0, .string ByteArray.empty, .int .i64 0, .int .i64 0, .string ByteArray.empty, .slice none 0 0, .slice none 0 0, .slice none 0 0] 67)) = wa := hwa
  (first | rw [hwa] | rw [hwa2] | rw [hwa3])
  rw [hwa] at BA V4 V5
  clear hwa hwa2 hwa3
  replace RR := Lib.hid (RR.out.below BA.out)
  have KK : Hid (KeepR rb w wa) := Lib.hid (KeepR.of_below' BA.out)
  obtain ⟨g4, hg4⟩ : ∃ g, w.heap.size = g := ⟨_, rfl⟩
  obtain ⟨g5, hg5⟩ : ∃ g, w.heap.size + 1 = g := ⟨_, rfl⟩
  have HG4 := Lib.hid hg4
  have HG5 := Lib.hid hg5
  have hn45 : ¬ g4 = g5 := by omega
  have hn54 : ¬ g5 = g4 := by omega
  have hn4r : ¬ g4 = rb := by omega
  have hnr4 : ¬ rb = g4 := by omega
  have hn5r : ¬ g5 = rb := by omega
  have hnr5 : ¬ rb = g5 := by omega
  have HA4 : Hid (∀ b o, A = some ⟨b, o, none⟩ → b ≠ g4) := Lib.hid (fun b o e => by have := HA.out b o e; omega)
  have HA5 : Hid (∀ b o, A = some ⟨b, o, none⟩ → b ≠ g5) := Lib.hid (fun b o e => by have := HA.out b o e; omega)
  rw [hg4] at V4
  rw [hg5] at V5
  (try rw [hg5])
  (try rw [hg4])
  clear hg4 hg5 BA
  refine (rs_is ⟨#[105, 102]⟩ _ rb A c n i L 0 0 0 RR.out (by decide)).mono ?_
  rintro e u1 ⟨rfl, bu1⟩
  rw [kd1, HI.out]
  replace RR := Lib.hid (RR.out.below bu1)
  replace KK := Lib.hid (KeepR.trans' KK.out (KeepR.of_below' bu1))
  replace V4 := Lib.hid ((bu1.block g4 (lt_of_block V4.out)).trans V4.out)
  replace V5 := Lib.hid ((bu1.block g5 (lt_of_block V5.out)).trans V5.out)
  clear bu1
  go_wp2_with fail
  refine (rs_is ⟨#[119, 104, 105, 108, 101]⟩ _ rb A c n i L 0 0 0 RR.out (by decide)).mono ?_
  rintro e u2 ⟨rfl, bu2⟩
  rw [kd1, HW.out]
  replace RR := Lib.hid (RR.out.below bu2)
  replace KK := Lib.hid (KeepR.trans' KK.out (KeepR.of_below' bu2))
  replace V4 := Lib.hid ((bu2.block g4 (lt_of_block V4.out)).trans V4.out)
  replace V5 := Lib.hid ((bu2.block g5 (lt_of_block V5.out)).trans V5.out)
  clear bu2
  obtain ⟨_, _, _, _, _, p5⟩ := RR.out.cs
  go_wp2_with fail
  refine (rs_bad 5 _ rb A c n i L 0 0 RR.out).mono ?_
  rintro e u3 ⟨rfl, ru3, ku3⟩
  clear p5
  replace RR := Lib.hid ru3
  replace KK := Lib.hid (KeepR.trans' KK.out ku3)
  replace V4 := Lib.hid ((ku3.block g4 (lt_of_block V4.out) hn4r).trans V4.out)
  replace V5 := Lib.hid ((ku3.block g5 (lt_of_block V5.out) hn5r).trans V5.out)
  clear ku3 ru3
  obtain ⟨⟨c0, c1, c2, c3, c4, c5, c6, c7⟩, f0, f1, f2, f3, f4, f5, f6, f7⟩ := cells8R V4.out
  obtain ⟨⟨a0, a1, a2, a3, a4, a5, a6, a7⟩, _⟩ := cells8R V5.out
  have hz4 := lt_of_block V4.out
  have hz5 := lt_of_block V5.out
  go_wp2_with fail
  refine bodyPost_ret (v := .agg #[.int .i64 0, .string ⟨#[]⟩, .int .i64 0, .int .i64 0, .string ⟨#[]⟩, .slice none 0 0, .slice none 0 0, .slice none 0 0]) (by simp [results, Tryd.results28, go_sem, c0, c1, c2, c3, c4, c5, c6, c7]) rfl ?_
  exact finRB ⟨0, ⟨#[]⟩, 0, 0, ⟨#[]⟩, none, 0, 0, none, 0, 0, none, 0, 0⟩ HG4.out KK.out RR.out HF.out HA4.out hn4r
set_option maxHeartbeats 6400000 in
set_option maxRecDepth 100000 in
theorem rs_stmt_fullo (w : World) (rb : Nat) (A : Option Addr) (c n i : Nat) (L : List Sg) (room : Int) (hs : SgsOk L) (hA : ∀ b o, A = some ⟨b, o, none⟩ → b < w.heap.size) (h : RsAt w rb A c n i L 0 0 0) (k : Int) (hw : wordOf L i = k) (hk : k ≠ 2 ∧ k ≠ 3) :
    Calls Tryd.prog 28 #[.pointer (some ⟨rb, 0, none⟩), .int .i64 room] w fun e w' => GsS1 w w' rb A c n L (.bad 5 (posAt L n i)) e := by
  have HI : Hid (decide (tx L i = ⟨#[105, 102]⟩) = false) := Lib.hid (decide_eq_false (fun e => by have := word_wd (k := 2) (by decide) e; omega))
  have HW : Hid (decide (tx L i = ⟨#[119, 104, 105, 108, 101]⟩) = false) := Lib.hid (decide_eq_false (fun e => by have := word_wd (k := 3) (by decide) e; omega))
  clear hw hk
  have HF : Hid (¬ (5 : Int) = 0) := Lib.hid (by decide)
  have RR := Lib.hid h
  have HS := Lib.hid hs
  have HA := Lib.hid hA
  have hrb := h.lt
  have hi6 := h.hi
  have hL6 := h.hL
  clear h hs hA
  go_enter Tryd.func28, Tryd.ntmps28
  go_wp2_with fail
  have BA : Hid (Below w.heap.size w ((w.alloc (.cells #[.int .i64 0, .string ByteArray.empty, .int .i64 0, .int .i64 0, .string ByteArray.empty, .slice none 0 0, .slice none 0 0, .slice none 0 0] 67)).alloc (.cells #[.int .i64 0, .string ⟨#[]⟩, .int .i64 0, .int .i64 0, .string ⟨#[]⟩, .slice none 0 0, .slice none 0 0, .slice none 0 0] 67))) := Lib.hid (Below.alloc (Below.alloc (Below.refl _ _) (Nat.le_refl _) _) (by simp) _)
  have V4 : Hid (((w.alloc (.cells #[.int .i64 0, .string ByteArray.empty, .int .i64 0, .int .i64 0, .string ByteArray.empty, .slice none 0 0, .slice none 0 0, .slice none 0 0] 67)).alloc (.cells #[.int .i64 0, .string ⟨#[]⟩, .int .i64 0, .int .i64 0, .string ⟨#[]⟩, .slice none 0 0, .slice none 0 0, .slice none 0 0] 67)).heap[w.heap.size]? = some (.cells #[.int .i64 0, .string ⟨#[]⟩, .int .i64 0, .int .i64 0, .string ⟨#[]⟩, .slice none 0 0, .slice none 0 0, .slice none 0 0] 67 (0, 0))) := Lib.hid ((heap_alloc_lt (by simp)).trans (heap_alloc_new _ _))
  have V5 : Hid (((w.alloc (.cells #[.int .i64 0, .string ByteArray.empty, .int .i64 0, .int .i64 0, .string ByteArray.empty, .slice none 0 0, .slice none 0 0, .slice none 0 0] 67)).alloc (.cells #[.int .i64 0, .string ⟨#[]⟩, .int .i64 0, .int .i64 0, .string ⟨#[]⟩, .slice none 0 0, .slice none 0 0, .slice none 0 0] 67)).heap[w.heap.size + 1]? = some (.cells #[.int .i64 0, .string ⟨#[]⟩, .int .i64 0, .int .i64 0, .string ⟨#[]⟩, .slice none 0 0, .slice none 0 0, .slice none 0 0] 67 (0, 0))) := Lib.hid (by have := heap_alloc_new (w.alloc (.cells #[.int .i64 0, .string ByteArray.empty, .int .i64 0, .int .i64 0, .string ByteArray.empty, .slice none 0 0, .slice none 0 0, .slice none 0 0] 67)) (.cells #[.int .i64 0, .string ⟨#[]⟩, .int .i64 0, .int .i64 0, .string ⟨#[]⟩, .slice none 0 0, .slice none 0 0, .slice none 0 0] 67); simpa using this)
  obtain ⟨wa, hwa⟩ : ∃ wa, ((w.alloc (.cells #[.int .i64 0, .string ByteArray.empty, .int .i64 0, .int .i64 0, .string ByteArray.empty, .slice none 0 0, .slice none 0 0, .slice none 0 0] 67)).alloc (.cells #[.int .i64 0, .string ⟨#[]⟩, .int .i64 0, .int .i64 0, .string ⟨#[]⟩, .slice none 0 0, .slice none 0 0, .slice none 0 0] 67)) = wa := ⟨_, rfl⟩
  have hza : wa.heap.size = w.heap.size + 2 := by rw [← hwa]; simp
  have hwa2 : ((w.alloc (.cells #[.int .i64 0, .string ⟨#[]⟩, .int .i64 0, .int .i64 0, .string ⟨#[]⟩, .slice none 0 0, .slice none 0 0, .slice none 0 0] 67)).alloc (.cells #[.int .i64 0, .string ⟨#[]⟩, .int .i64 0, .int .i64 0, .string ⟨#[]⟩, .slice none 0 0, .slice none 0 0, .slice none 0 0] 67)) = wa := hwa
  have hwa3 : ((w.alloc (.cells #[.int .i64 0, .string ByteArray.empty, .int .i64 0, .int .i64 0, .string ByteArray.empty, .slice none 0 0, .slice none 0 0, .slice none 0 0] 67)).alloc (.cells #[.int .i64 0, .string ByteArray.empty, .int .i64 0, .int .i64 0, .string ByteArray.empty, .slice none 0 0, .slice none 0 0, .slice none 0 0] 67)) = wa := hwa
  (first | rw [hwa] | rw [hwa2] | rw [hwa3])
  rw [hwa] at BA V4 V5
  clear hwa hwa2 hwa3
  replace RR := Lib.hid (RR.out.below BA.out)
  have KK : Hid (KeepR rb w wa) := Lib.hid (KeepR.of_below' BA.out)
  obtain ⟨g4, hg4⟩ : ∃ g, w.heap.size = g := ⟨_, rfl⟩
  obtain ⟨g5, hg5⟩ : ∃ g, w.heap.size + 1 = g := ⟨_, rfl⟩
  have HG4 := Lib.hid hg4
  have HG5 := Lib.hid hg5
  have hn45 : ¬ g4 = g5 := by omega
  have hn54 : ¬ g5 = g4 := by omega
  have hn4r : ¬ g4 = rb := by omega
  have hnr4 : ¬ rb = g4 := by omega
  have hn5r : ¬ g5 = rb := by omega
  have hnr5 : ¬ rb = g5 := by omega
  have HA4 : Hid (∀ b o, A = some ⟨b, o, none⟩ → b ≠ g4) := Lib.hid (fun b o e => by have := HA.out b o e; omega)
  have HA5 : Hid (∀ b o, A = some ⟨b, o, none⟩ → b ≠ g5) := Lib.hid (fun b o e => by have := HA.out b o e; omega)
  rw [hg4] at V4
  rw [hg5] at V5
  (try rw [hg5])
  (try rw [hg4])
  clear hg4 hg5 BA
  refine (rs_is ⟨#[105, 102]⟩ _ rb A c n i L 0 0 0 RR.out (by decide)).mono ?_
  rintro e u1 ⟨rfl, bu1⟩
  rw [kd1, HI.out]
  replace RR := Lib.hid (RR.out.below bu1)
  replace KK := Lib.hid (KeepR.trans' KK.out (KeepR.of_below' bu1))
  replace V4 := Lib.hid ((bu1.block g4 (lt_of_block V4.out)).trans V4.out)
  replace V5 := Lib.hid ((bu1.block g5 (lt_of_block V5.out)).trans V5.out)
  clear bu1
  go_wp2_with fail
  refine (rs_is ⟨#[119, 104, 105, 108, 101]⟩ _ rb A c n i L 0 0 0 RR.out (by decide)).mono ?_
  rintro e u2 ⟨rfl, bu2⟩
  rw [kd1, HW.out]
  replace RR := Lib.hid (RR.out.below bu2)
  replace KK := Lib.hid (KeepR.trans' KK.out (KeepR.of_below' bu2))
  replace V4 := Lib.hid ((bu2.block g4 (lt_of_block V4.out)).trans V4.out)
  replace V5 := Lib.hid ((bu2.block g5 (lt_of_block V5.out)).trans V5.out)
  clear bu2
  obtain ⟨_, _, _, _, _, p5⟩ := RR.out.cs
  go_wp2_with fail
  refine (rs_bad 5 _ rb A c n i L 0 0 RR.out).mono ?_
  rintro e u3 ⟨rfl, ru3, ku3⟩
  clear p5
  replace RR := Lib.hid ru3
  replace KK := Lib.hid (KeepR.trans' KK.out ku3)
  replace V4 := Lib.hid ((ku3.block g4 (lt_of_block V4.out) hn4r).trans V4.out)
  replace V5 := Lib.hid ((ku3.block g5 (lt_of_block V5.out) hn5r).trans V5.out)
  clear ku3 ru3
  obtain ⟨⟨c0, c1, c2, c3, c4, c5, c6, c7⟩, f0, f1, f2, f3, f4, f5, f6, f7⟩ := cells8R V4.out
  obtain ⟨⟨a0, a1, a2, a3, a4, a5, a6, a7⟩, _⟩ := cells8R V5.out
  have hz4 := lt_of_block V4.out
  have hz5 := lt_of_block V5.out
  go_wp2_with fail
  refine bodyPost_ret (v := .agg #[.int .i64 0, .string ⟨#[]⟩, .int .i64 0, .int .i64 0, .string ⟨#[]⟩, .slice none 0 0, .slice none 0 0, .slice none 0 0]) (by simp [results, Tryd.results28, go_sem, c0, c1, c2, c3, c4, c5, c6, c7]) rfl ?_
  exact finRB ⟨0, ⟨#[]⟩, 0, 0, ⟨#[]⟩, none, 0, 0, none, 0, 0, none, 0, 0⟩ HG4.out KK.out RR.out HF.out HA4.out hn4r
set_option maxHeartbeats 6400000 in
set_option maxRecDepth 100000 in
theorem rs_stmt_set (rec : Nat → Nat → Got (List St × Nat)) (w : World) (rb : Nat) (A : Option Addr) (c n i : Nat) (L : List Sg) (left : Nat) (hs : SgsOk L) (hA : ∀ b o, A = some ⟨b, o, none⟩ → b < w.heap.size) (room : Int) (hl : left + 1 ≤ 60) (h : RsAt w rb A c n i L 0 0 ((left + 1 : Nat) : Int)) (hw : wordOf L i = 1) :
    Calls Tryd.prog 28 #[.pointer (some ⟨rb, 0, none⟩), .int .i64 room] w fun e w' => GsS1 w w' rb A c n L (oneG L n rec 1 i left) e := by
  obtain ⟨lf, hlf⟩ : ∃ lf : Int, ((left + 1 : Nat) : Int) = lf := ⟨_, rfl⟩
  rw [hlf] at h
  have HLF : Hid (lf - 1 = (left : Int)) := Lib.hid (by omega)
  have hlf0 : (lf == 0) = false := beq_eq_false_iff_ne.2 (by omega)
  have hlf1 : 1 ≤ lf := by omega
  have hlf2 : lf ≤ 60 := by omega
  clear hlf
  have HNM := Lib.hid (word_one hw)
  have hlt := there_n (word_one hw)
  have HSZ := Lib.hid (name_sz (word_one hw))
  have HI : Hid (decide (tx L i = ⟨#[105, 102]⟩) = false) := Lib.hid (decide_eq_false (fun e => by have := word_wd (k := 2) (by decide) e; omega))
  have HW : Hid (decide (tx L i = ⟨#[119, 104, 105, 108, 101]⟩) = false) := Lib.hid (decide_eq_false (fun e => by have := word_wd (k := 3) (by decide) e; omega))
  clear hw
  have RR := Lib.hid h
  have HS := Lib.hid hs
  have HA := Lib.hid hA
  have hrb := h.lt
  have hi6 := h.hi
  have hL6 := h.hL
  clear h hs hA
  go_enter Tryd.func28, Tryd.ntmps28
  go_wp2_with fail
  have BA : Hid (Below w.heap.size w ((w.alloc (.cells #[.int .i64 0, .string ByteArray.empty, .int .i64 0, .int .i64 0, .string ByteArray.empty, .slice none 0 0, .slice none 0 0, .slice none 0 0] 67)).alloc (.cells #[.int .i64 0, .string ⟨#[]⟩, .int .i64 0, .int .i64 0, .string ⟨#[]⟩, .slice none 0 0, .slice none 0 0, .slice none 0 0] 67))) := Lib.hid (Below.alloc (Below.alloc (Below.refl _ _) (Nat.le_refl _) _) (by simp) _)
  have V4 : Hid (((w.alloc (.cells #[.int .i64 0, .string ByteArray.empty, .int .i64 0, .int .i64 0, .string ByteArray.empty, .slice none 0 0, .slice none 0 0, .slice none 0 0] 67)).alloc (.cells #[.int .i64 0, .string ⟨#[]⟩, .int .i64 0, .int .i64 0, .string ⟨#[]⟩, .slice none 0 0, .slice none 0 0, .slice none 0 0] 67)).heap[w.heap.size]? = some (.cells #[.int .i64 0, .string ⟨#[]⟩, .int .i64 0, .int .i64 0, .string ⟨#[]⟩, .slice none 0 0, .slice none 0 0, .slice none 0 0] 67 (0, 0))) := Lib.hid ((heap_alloc_lt (by simp)).trans (heap_alloc_new _ _))
  have V5 : Hid (((w.alloc (.cells #[.int .i64 0, .string ByteArray.empty, .int .i64 0, .int .i64 0, .string ByteArray.empty, .slice none 0 0, .slice none 0 0, .slice none 0 0] 67)).alloc (.cells #[.int .i64 0, .string ⟨#[]⟩, .int .i64 0, .int .i64 0, .string ⟨#[]⟩, .slice none 0 0, .slice none 0 0, .slice none 0 0] 67)).heap[w.heap.size + 1]? = some (.cells #[.int .i64 0, .string ⟨#[]⟩, .int .i64 0, .int .i64 0, .string ⟨#[]⟩, .slice none 0 0, .slice none 0 0, .slice none 0 0] 67 (0, 0))) := Lib.hid (by have := heap_alloc_new (w.alloc (.cells #[.int .i64 0, .string ByteArray.empty, .int .i64 0, .int .i64 0, .string ByteArray.empty, .slice none 0 0, .slice none 0 0, .slice none 0 0] 67)) (.cells #[.int .i64 0, .string ⟨#[]⟩, .int .i64 0, .int .i64 0, .string ⟨#[]⟩, .slice none 0 0, .slice none 0 0, .slice none 0 0] 67); simpa using this)
  obtain ⟨wa, hwa⟩ : ∃ wa, ((w.alloc (.cells #[.int .i64 0, .string ByteArray.empty, .int .i64 0, .int .i64 0, .string ByteArray.empty, .slice none 0 0, .slice none 0 0, .slice none 0 0] 67)).alloc (.cells #[.int .i64 0, .string ⟨#[]⟩, .int .i64 0, .int .i64 0, .string ⟨#[]⟩, .slice none 0 0, .slice none 0 0, .slice none 0 0] 67)) = wa := ⟨_, rfl⟩
  have hza : wa.heap.size = w.heap.size + 2 := by rw [← hwa]; simp
  have hwa2 : ((w.alloc (.cells #[.int .i64 0, .string ⟨#[]⟩, .int .i64 0, .int .i64 0, .string ⟨#[]⟩, .slice none 0 0, .slice none 0 0, .slice none 0 0] 67)).alloc (.cells #[.int .i64 0, .string ⟨#[]⟩, .int .i64 0, .int .i64 0, .string ⟨#[]⟩, .slice none 0 0, .slice none 0 0, .slice none 0 0] 67)) = wa := hwa
  have hwa3 : ((w.alloc (.cells #[.int .i64 0, .string ByteArray.empty, .int .i64 0, .int .i64 0, .string ByteArray.empty, .slice none 0 0, .slice none 0 0, .slice none 0 0] 67)).alloc (.cells #[.int .i64 0, .string ByteArray.empty, .int .i64 0, .int .i64 0, .string ByteArray.empty, .slice none 0 0, .slice none 0 0, .slice none 0 0] 67)) = wa := hwa
  (first | rw [hwa] | rw [hwa2] | rw [hwa3])
  rw [hwa] at BA V4 V5
  clear hwa hwa2 hwa3
  replace RR := Lib.hid (RR.out.below BA.out)
  have KK : Hid (KeepR rb w wa) := Lib.hid (KeepR.of_below' BA.out)
  obtain ⟨g4, hg4⟩ : ∃ g, w.heap.size = g := ⟨_, rfl⟩
  obtain ⟨g5, hg5⟩ : ∃ g, w.heap.size + 1 = g := ⟨_, rfl⟩
  have HG4 := Lib.hid hg4
  have HG5 := Lib.hid hg5
  have hn45 : ¬ g4 = g5 := by omega
  have hn54 : ¬ g5 = g4 := by omega
  have hn4r : ¬ g4 = rb := by omega
  have hnr4 : ¬ rb = g4 := by omega
  have hn5r : ¬ g5 = rb := by omega
  have hnr5 : ¬ rb = g5 := by omega
  have HA4 : Hid (∀ b o, A = some ⟨b, o, none⟩ → b ≠ g4) := Lib.hid (fun b o e => by have := HA.out b o e; omega)
  have HA5 : Hid (∀ b o, A = some ⟨b, o, none⟩ → b ≠ g5) := Lib.hid (fun b o e => by have := HA.out b o e; omega)
  rw [hg4] at V4
  rw [hg5] at V5
  (try rw [hg5])
  (try rw [hg4])
  clear hg4 hg5 BA
  refine (rs_is ⟨#[105, 102]⟩ _ rb A c n i L 0 0 lf RR.out (by decide)).mono ?_
  rintro e u1 ⟨rfl, bu1⟩
  rw [kd1, HI.out]
  replace RR := Lib.hid (RR.out.below bu1)
  replace KK := Lib.hid (KeepR.trans' KK.out (KeepR.of_below' bu1))
  replace V4 := Lib.hid ((bu1.block g4 (lt_of_block V4.out)).trans V4.out)
  replace V5 := Lib.hid ((bu1.block g5 (lt_of_block V5.out)).trans V5.out)
  clear bu1
  go_wp2_with fail
  refine (rs_is ⟨#[119, 104, 105, 108, 101]⟩ _ rb A c n i L 0 0 lf RR.out (by decide)).mono ?_
  rintro e u2 ⟨rfl, bu2⟩
  rw [kd1, HW.out]
  replace RR := Lib.hid (RR.out.below bu2)
  replace KK := Lib.hid (KeepR.trans' KK.out (KeepR.of_below' bu2))
  replace V4 := Lib.hid ((bu2.block g4 (lt_of_block V4.out)).trans V4.out)
  replace V5 := Lib.hid ((bu2.block g5 (lt_of_block V5.out)).trans V5.out)
  clear bu2
  obtain ⟨_, p1, _, p3, _, p5⟩ := RR.out.cs
  have fr := RR.out.fz 5
  have hrl := RR.out.lt
  replace RR := Lib.hid (RR.out.setl (lf - 1))
  replace KK := Lib.hid (KeepR.setr (o := 5) KK.out (.int .i64 (lf - 1)))
  replace V4 := Lib.hid ((Below.heap_setCell u2 ⟨rb, 5, none⟩ (.int .i64 (lf - 1)) g4 hn4r).trans V4.out)
  replace V5 := Lib.hid ((Below.heap_setCell u2 ⟨rb, 5, none⟩ (.int .i64 (lf - 1)) g5 hn5r).trans V5.out)
  go_wp2_with fail
  obtain ⟨u3, hu3⟩ : ∃ x, (u2.setCell ⟨rb, 5, none⟩ (.int .i64 (lf - 1))) = x := ⟨_, rfl⟩
  rw [hu3] at RR KK V4 V5 ⊢
  clear hu3 p1 p3 p5 fr hrl
  replace RR : Hid (RsAt u3 rb A c n i L 0 0 (left : Int)) := Lib.hid (by rw [← HLF.out]; exact RR.out)
  refine (rs_named _ rb A c n i L 0 0 (left : Int) RR.out HS.out).mono ?_
  rintro e u4 ⟨rfl, bu4⟩
  rw [kd2, HNM.out]
  replace RR := Lib.hid (RR.out.below bu4)
  replace KK := Lib.hid (KeepR.trans' KK.out (KeepR.of_below' bu4))
  replace V4 := Lib.hid ((bu4.block g4 (lt_of_block V4.out)).trans V4.out)
  replace V5 := Lib.hid ((bu4.block g5 (lt_of_block V5.out)).trans V5.out)
  clear bu4
  obtain ⟨⟨c0, c1, c2, c3, c4, c5, c6, c7⟩, f0, f1, f2, f3, f4, f5, f6, f7⟩ := cells8R V5.out
  have hz5 := lt_of_block V5.out
  replace RR := Lib.hid (RR.out.setg hn5r HA5.out 0 (.int .i64 1))
  replace KK := Lib.hid (KeepR.setg (g := g5) (o := 0) KK.out (by have := HG5.out; omega) (.int .i64 1))
  replace V4 := Lib.hid ((Below.heap_setCell u4 ⟨g5, 0, none⟩ (.int .i64 1) g4 hn45).trans V4.out)
  replace V5 := Lib.hid (s8_0 V5.out (.int .i64 1))
  go_wp2_with fail
  obtain ⟨u5, hu5⟩ : ∃ x, (u4.setCell ⟨g5, 0, none⟩ (.int .i64 1)) = x := ⟨_, rfl⟩
  rw [hu5] at RR KK V4 V5 ⊢
  clear hu5 c0 c1 c2 c3 c4 c5 c6 c7 f0 f1 f2 f3 f4 f5 f6 f7 hz5
  refine (rs_name _ rb A c n i L 0 (left : Int) RR.out HS.out).mono ?_
  rintro e u6 ⟨ku6, hret⟩
  rcases hret with ⟨_, rfl, ru6⟩ | ⟨hno, _, _⟩
  case inr => rw [HNM.out] at hno; cases hno
  replace RR := Lib.hid ru6
  replace KK := Lib.hid (KeepR.trans' KK.out ku6)
  replace V4 := Lib.hid ((ku6.block g4 (lt_of_block V4.out) hn4r).trans V4.out)
  replace V5 := Lib.hid ((ku6.block g5 (lt_of_block V5.out) hn5r).trans V5.out)
  clear ku6 ru6
  obtain ⟨T, hT⟩ : ∃ T, tx L i = T := ⟨_, rfl⟩
  have HT := Lib.hid hT
  rw [hT] at HSZ ⊢
  clear hT
  obtain ⟨⟨c0, c1, c2, c3, c4, c5, c6, c7⟩, f0, f1, f2, f3, f4, f5, f6, f7⟩ := cells8R V5.out
  have hz5 := lt_of_block V5.out
  replace RR := Lib.hid (RR.out.setg hn5r HA5.out 1 (.string T))
  replace KK := Lib.hid (KeepR.setg (g := g5) (o := 1) KK.out (by have := HG5.out; omega) (.string T))
  replace V4 := Lib.hid ((Below.heap_setCell u6 ⟨g5, 1, none⟩ (.string T) g4 hn45).trans V4.out)
  replace V5 := Lib.hid (s8_1 V5.out (.string T))
  go_wp2_with fail
  obtain ⟨u7, hu7⟩ : ∃ x, (u6.setCell ⟨g5, 1, none⟩ (.string T)) = x := ⟨_, rfl⟩
  rw [hu7] at RR KK V4 V5 ⊢
  clear hu7 c0 c1 c2 c3 c4 c5 c6 c7 f0 f1 f2 f3 f4 f5 f6 f7 hz5
  refine (rs_take ⟨#[61]⟩ _ rb A c n (i + 1) L 0 (left : Int) RR.out (by decide)).mono ?_
  rintro e u8 ⟨rfl, ku8, hret⟩
  rcases hret with ⟨ht, ru8⟩ | ⟨ht, ru8⟩
  case inr =>
    have HF : Hid (¬ (3 : Int) = 0) := Lib.hid (by decide)
    have GG : Hid (oneG L n rec 1 i left = .bad 3 (posAt L n (i + 1))) := Lib.hid (by rw [oneG_set, tk_bad ht]; rfl)
    clear ht
    replace RR := Lib.hid ru8
    replace KK := Lib.hid (KeepR.trans' KK.out ku8)
    replace V4 := Lib.hid ((ku8.block g4 (lt_of_block V4.out) hn4r).trans V4.out)
    replace V5 := Lib.hid ((ku8.block g5 (lt_of_block V5.out) hn5r).trans V5.out)
    clear ku8 ru8
    go_wp2_with fail
    refine (rs_term_fault 6 _ rb A c n (i + 1) L 3 (posAt L n (i + 1)) (left : Int) (fun b o e => Nat.lt_of_lt_of_le (HA.out b o e) KK.out.size) RR.out HF.out).mono ?_
    rintro e u9 ⟨rfl, bu9⟩
    replace RR := Lib.hid (RR.out.below bu9)
    replace KK := Lib.hid (KeepR.trans' KK.out (KeepR.of_below' bu9))
    replace V4 := Lib.hid ((bu9.block g4 (lt_of_block V4.out)).trans V4.out)
    replace V5 := Lib.hid ((bu9.block g5 (lt_of_block V5.out)).trans V5.out)
    clear bu9
    obtain ⟨⟨c0, c1, c2, c3, c4, c5, c6, c7⟩, f0, f1, f2, f3, f4, f5, f6, f7⟩ := cells8R V5.out
    have hz5 := lt_of_block V5.out
    replace RR := Lib.hid ((((RR.out.setg hn5r HA5.out 2 (.int .i64 0)).setg hn5r HA5.out 3 (.int .i64 0)).setg hn5r HA5.out 4 (.string ⟨#[]⟩)).setg hn5r HA5.out 5 (.slice none 0 0))
    replace KK := Lib.hid (KeepR.setg (g := g5) (o := 5) (KeepR.setg (g := g5) (o := 4) (KeepR.setg (g := g5) (o := 3) (KeepR.setg (g := g5) (o := 2) KK.out (by have := HG5.out; omega) (.int .i64 0)) (by have := HG5.out; omega) (.int .i64 0)) (by have := HG5.out; omega) (.string ⟨#[]⟩)) (by have := HG5.out; omega) (.slice none 0 0))
    replace V4 := Lib.hid ((Below.heap_setCell (((u9.setCell ⟨g5, 2, none⟩ (.int .i64 0)).setCell ⟨g5, 3, none⟩ (.int .i64 0)).setCell ⟨g5, 4, none⟩ (.string ⟨#[]⟩)) ⟨g5, 5, none⟩ (.slice none 0 0) g4 hn45).trans ((Below.heap_setCell ((u9.setCell ⟨g5, 2, none⟩ (.int .i64 0)).setCell ⟨g5, 3, none⟩ (.int .i64 0)) ⟨g5, 4, none⟩ (.string ⟨#[]⟩) g4 hn45).trans ((Below.heap_setCell (u9.setCell ⟨g5, 2, none⟩ (.int .i64 0)) ⟨g5, 3, none⟩ (.int .i64 0) g4 hn45).trans ((Below.heap_setCell u9 ⟨g5, 2, none⟩ (.int .i64 0) g4 hn45).trans V4.out))))
    replace V5 := Lib.hid (s8_t V5.out (.int .i64 0) (.int .i64 0) (.string ⟨#[]⟩) (.slice none 0 0))
    go_wp2_with fail
    obtain ⟨u11, hu11⟩ : ∃ x, ((((u9.setCell ⟨g5, 2, none⟩ (.int .i64 0)).setCell ⟨g5, 3, none⟩ (.int .i64 0)).setCell ⟨g5, 4, none⟩ (.string ⟨#[]⟩)).setCell ⟨g5, 5, none⟩ (.slice none 0 0)) = x := ⟨_, rfl⟩
    rw [hu11] at RR KK V4 V5 ⊢
    clear hu11 c0 c1 c2 c3 c4 c5 c6 c7 f0 f1 f2 f3 f4 f5 f6 f7 hz5
    refine (rs_take2 ⟨#[59]⟩ _ rb A c n (i + 1) L 3 (posAt L n (i + 1)) (left : Int) RR.out (by decide) HF.out).mono ?_
    rintro e u10 ⟨rfl, bu10⟩
    replace RR := Lib.hid (RR.out.below bu10)
    replace KK := Lib.hid (KeepR.trans' KK.out (KeepR.of_below' bu10))
    replace V4 := Lib.hid ((bu10.block g4 (lt_of_block V4.out)).trans V4.out)
    replace V5 := Lib.hid ((bu10.block g5 (lt_of_block V5.out)).trans V5.out)
    clear bu10
    obtain ⟨⟨c0, c1, c2, c3, c4, c5, c6, c7⟩, f0, f1, f2, f3, f4, f5, f6, f7⟩ := cells8R V4.out
    obtain ⟨⟨a0, a1, a2, a3, a4, a5, a6, a7⟩, _⟩ := cells8R V5.out
    have hz4 := lt_of_block V4.out
    have hz5 := lt_of_block V5.out
    go_wp2_with fail
    refine bodyPost_ret (v := .agg #[.int .i64 1, .string T, .int .i64 0, .int .i64 0, .string ⟨#[]⟩, .slice none 0 0, .slice none 0 0, .slice none 0 0]) (by simp [results, Tryd.results28, go_sem, c0, c1, c2, c3, c4, c5, c6, c7]) rfl ?_
    rw [GG.out]
    exact finRB ⟨1, T, 0, 0, ⟨#[]⟩, none, 0, 0, none, 0, 0, none, 0, 0⟩ HG4.out KK.out RR.out HF.out HA4.out hn4r
  have GA : Hid (oneG L n rec 1 i left = (rdT L n 6 (i + 1 + 1)).bind fun t i2 => (tk L n ⟨#[59]⟩ i2).bind fun _ i3 => .ok (.mk 1 T t [] [], left) i3) := Lib.hid (by rw [oneG_set, tk_ok ht, bind_ok, HT.out])
  clear ht
  replace RR := Lib.hid ru8
  replace KK := Lib.hid (KeepR.trans' KK.out ku8)
  replace V4 := Lib.hid ((ku8.block g4 (lt_of_block V4.out) hn4r).trans V4.out)
  replace V5 := Lib.hid ((ku8.block g5 (lt_of_block V5.out) hn5r).trans V5.out)
  clear ku8 ru8
  go_wp2_with fail
  have SL : Hid (g5 < u8.heap.size ∧ rb < u8.heap.size ∧ g4 < u8.heap.size) := Lib.hid ⟨lt_of_block V5.out, RR.out.lt, lt_of_block V4.out⟩
  have hcl := rs_term_all 6 (Nat.le_refl _) u8 rb A c n (i + 1 + 1) L (left : Int) HS.out (fun b o e => Nat.lt_of_lt_of_le (HA.out b o e) KK.out.size) RR.out
  rw [show (((6 : Nat) : Int)) = 6 from rfl] at hcl
  refine hcl.mono ?_
  clear hcl
  rintro e u12 ⟨ku12, ty, tn, ts, tA, tm, tc, rfl, hret⟩
  generalize rdT L n 6 (i + 1 + 1) = g at *
  cases g with
  | bad fc fp =>
    obtain ⟨hf, q, ru12⟩ := hret
    have HF := Lib.hid hf
    have GG : Hid (oneG L n rec 1 i left = .bad fc fp) := Lib.hid (by rw [GA.out]; rfl)
    clear hf GA
    replace RR := Lib.hid ru12
    replace KK := Lib.hid (KeepR.trans' KK.out ku12)
    replace V4 := Lib.hid ((ku12.block g4 (lt_of_block V4.out) hn4r).trans V4.out)
    replace V5 := Lib.hid ((ku12.block g5 (lt_of_block V5.out) hn5r).trans V5.out)
    clear ku12 ru12
    obtain ⟨⟨c0, c1, c2, c3, c4, c5, c6, c7⟩, f0, f1, f2, f3, f4, f5, f6, f7⟩ := cells8R V5.out
    have hz5 := lt_of_block V5.out
    replace RR := Lib.hid ((((RR.out.setg hn5r HA5.out 2 (.int .i64 ty)).setg hn5r HA5.out 3 (.int .i64 tn)).setg hn5r HA5.out 4 (.string ts)).setg hn5r HA5.out 5 (.slice tA tm tc))
    replace KK := Lib.hid (KeepR.setg (g := g5) (o := 5) (KeepR.setg (g := g5) (o := 4) (KeepR.setg (g := g5) (o := 3) (KeepR.setg (g := g5) (o := 2) KK.out (by have := HG5.out; omega) (.int .i64 ty)) (by have := HG5.out; omega) (.int .i64 tn)) (by have := HG5.out; omega) (.string ts)) (by have := HG5.out; omega) (.slice tA tm tc))
    replace V4 := Lib.hid ((Below.heap_setCell (((u12.setCell ⟨g5, 2, none⟩ (.int .i64 ty)).setCell ⟨g5, 3, none⟩ (.int .i64 tn)).setCell ⟨g5, 4, none⟩ (.string ts)) ⟨g5, 5, none⟩ (.slice tA tm tc) g4 hn45).trans ((Below.heap_setCell ((u12.setCell ⟨g5, 2, none⟩ (.int .i64 ty)).setCell ⟨g5, 3, none⟩ (.int .i64 tn)) ⟨g5, 4, none⟩ (.string ts) g4 hn45).trans ((Below.heap_setCell (u12.setCell ⟨g5, 2, none⟩ (.int .i64 ty)) ⟨g5, 3, none⟩ (.int .i64 tn) g4 hn45).trans ((Below.heap_setCell u12 ⟨g5, 2, none⟩ (.int .i64 ty) g4 hn45).trans V4.out))))
    replace V5 := Lib.hid (s8_t V5.out (.int .i64 ty) (.int .i64 tn) (.string ts) (.slice tA tm tc))
    go_wp2_with fail
    obtain ⟨u14, hu14⟩ : ∃ x, ((((u12.setCell ⟨g5, 2, none⟩ (.int .i64 ty)).setCell ⟨g5, 3, none⟩ (.int .i64 tn)).setCell ⟨g5, 4, none⟩ (.string ts)).setCell ⟨g5, 5, none⟩ (.slice tA tm tc)) = x := ⟨_, rfl⟩
    rw [hu14] at RR KK V4 V5 ⊢
    clear hu14 c0 c1 c2 c3 c4 c5 c6 c7 f0 f1 f2 f3 f4 f5 f6 f7 hz5
    refine (rs_take2 ⟨#[59]⟩ _ rb A c n q L fc fp (left : Int) RR.out (by decide) HF.out).mono ?_
    rintro e u13 ⟨rfl, bu13⟩
    replace RR := Lib.hid (RR.out.below bu13)
    replace KK := Lib.hid (KeepR.trans' KK.out (KeepR.of_below' bu13))
    replace V4 := Lib.hid ((bu13.block g4 (lt_of_block V4.out)).trans V4.out)
    replace V5 := Lib.hid ((bu13.block g5 (lt_of_block V5.out)).trans V5.out)
    clear bu13
    obtain ⟨⟨c0, c1, c2, c3, c4, c5, c6, c7⟩, f0, f1, f2, f3, f4, f5, f6, f7⟩ := cells8R V4.out
    obtain ⟨⟨a0, a1, a2, a3, a4, a5, a6, a7⟩, _⟩ := cells8R V5.out
    have hz4 := lt_of_block V4.out
    have hz5 := lt_of_block V5.out
    go_wp2_with fail
    refine bodyPost_ret (v := .agg #[.int .i64 1, .string T, .int .i64 ty, .int .i64 tn, .string ts, .slice tA tm tc, .slice none 0 0, .slice none 0 0]) (by simp [results, Tryd.results28, go_sem, c0, c1, c2, c3, c4, c5, c6, c7]) rfl ?_
    rw [GG.out]
    exact finRB ⟨1, T, ty, tn, ts, tA, tm, tc, none, 0, 0, none, 0, 0⟩ HG4.out KK.out RR.out HF.out HA4.out hn4r
  | ok t q =>
    obtain ⟨tof, ru12⟩ := hret
    have TT := Lib.hid tof
    clear tof
    have ST : Hid (u12.heap.size ≤ u12.heap.size) := Lib.hid (Nat.le_refl _)
    have SM : Hid (u8.heap.size ≤ u12.heap.size) := Lib.hid ku12.size
    replace RR := Lib.hid ru12
    replace KK := Lib.hid (KeepR.trans' KK.out ku12)
    replace V4 := Lib.hid ((ku12.block g4 (lt_of_block V4.out) hn4r).trans V4.out)
    replace V5 := Lib.hid ((ku12.block g5 (lt_of_block V5.out) hn5r).trans V5.out)
    clear ku12 ru12
    obtain ⟨⟨c0, c1, c2, c3, c4, c5, c6, c7⟩, f0, f1, f2, f3, f4, f5, f6, f7⟩ := cells8R V5.out
    have hz5 := lt_of_block V5.out
    replace RR := Lib.hid ((((RR.out.setg hn5r HA5.out 2 (.int .i64 ty)).setg hn5r HA5.out 3 (.int .i64 tn)).setg hn5r HA5.out 4 (.string ts)).setg hn5r HA5.out 5 (.slice tA tm tc))
    replace KK := Lib.hid (KeepR.setg (g := g5) (o := 5) (KeepR.setg (g := g5) (o := 4) (KeepR.setg (g := g5) (o := 3) (KeepR.setg (g := g5) (o := 2) KK.out (by have := HG5.out; omega) (.int .i64 ty)) (by have := HG5.out; omega) (.int .i64 tn)) (by have := HG5.out; omega) (.string ts)) (by have := HG5.out; omega) (.slice tA tm tc))
    replace V4 := Lib.hid ((Below.heap_setCell (((u12.setCell ⟨g5, 2, none⟩ (.int .i64 ty)).setCell ⟨g5, 3, none⟩ (.int .i64 tn)).setCell ⟨g5, 4, none⟩ (.string ts)) ⟨g5, 5, none⟩ (.slice tA tm tc) g4 hn45).trans ((Below.heap_setCell ((u12.setCell ⟨g5, 2, none⟩ (.int .i64 ty)).setCell ⟨g5, 3, none⟩ (.int .i64 tn)) ⟨g5, 4, none⟩ (.string ts) g4 hn45).trans ((Below.heap_setCell (u12.setCell ⟨g5, 2, none⟩ (.int .i64 ty)) ⟨g5, 3, none⟩ (.int .i64 tn) g4 hn45).trans ((Below.heap_setCell u12 ⟨g5, 2, none⟩ (.int .i64 ty) g4 hn45).trans V4.out))))
    replace V5 := Lib.hid (s8_t V5.out (.int .i64 ty) (.int .i64 tn) (.string ts) (.slice tA tm tc))
    replace TT := Lib.hid ((((TT.out.set (p := ⟨g5, 2, none⟩) (fun h => by have h1 : u8.heap.size ≤ g5 := h.1; have := SL.out; omega) (.int .i64 ty)).set (p := ⟨g5, 3, none⟩) (fun h => by have h1 : u8.heap.size ≤ g5 := h.1; have := SL.out; omega) (.int .i64 tn)).set (p := ⟨g5, 4, none⟩) (fun h => by have h1 : u8.heap.size ≤ g5 := h.1; have := SL.out; omega) (.string ts)).set (p := ⟨g5, 5, none⟩) (fun h => by have h1 : u8.heap.size ≤ g5 := h.1; have := SL.out; omega) (.slice tA tm tc))
    replace ST : Hid (u12.heap.size ≤ ((((u12.setCell ⟨g5, 2, none⟩ (.int .i64 ty)).setCell ⟨g5, 3, none⟩ (.int .i64 tn)).setCell ⟨g5, 4, none⟩ (.string ts)).setCell ⟨g5, 5, none⟩ (.slice tA tm tc)).heap.size) := Lib.hid (Nat.le_trans ST.out (by simp))
    have GB : Hid (oneG L n rec 1 i left = (Go.Proofs.YtdanlgmpgdipnaaDoor.tk L n ⟨#[59]⟩ q).bind fun _ i3 => .ok (.mk 1 T t [] [], left) i3) := Lib.hid (by rw [GA.out, bind_ok])
    clear GA
    go_wp2_with fail
    obtain ⟨u15, hu15⟩ : ∃ x, ((((u12.setCell ⟨g5, 2, none⟩ (.int .i64 ty)).setCell ⟨g5, 3, none⟩ (.int .i64 tn)).setCell ⟨g5, 4, none⟩ (.string ts)).setCell ⟨g5, 5, none⟩ (.slice tA tm tc)) = x := ⟨_, rfl⟩
    rw [hu15] at RR KK V4 V5 TT ST ⊢
    clear hu15 c0 c1 c2 c3 c4 c5 c6 c7 f0 f1 f2 f3 f4 f5 f6 f7 hz5
    refine (rs_take ⟨#[59]⟩ _ rb A c n q L 0 (left : Int) RR.out (by decide)).mono ?_
    rintro e u16 ⟨rfl, ku16, hret⟩
    rcases hret with ⟨ht, ru16⟩ | ⟨ht, ru16⟩
    case inr =>
      have HF : Hid (¬ (3 : Int) = 0) := Lib.hid (by decide)
      have GG : Hid (oneG L n rec 1 i left = .bad 3 (posAt L n q)) := Lib.hid (by rw [GB.out, tk_bad ht]; rfl)
      clear ht
      replace RR := Lib.hid ru16
      replace KK := Lib.hid (KeepR.trans' KK.out ku16)
      replace V4 := Lib.hid ((ku16.block g4 (lt_of_block V4.out) hn4r).trans V4.out)
      replace V5 := Lib.hid ((ku16.block g5 (lt_of_block V5.out) hn5r).trans V5.out)
      clear ku16 ru16
      obtain ⟨⟨c0, c1, c2, c3, c4, c5, c6, c7⟩, f0, f1, f2, f3, f4, f5, f6, f7⟩ := cells8R V4.out
      obtain ⟨⟨a0, a1, a2, a3, a4, a5, a6, a7⟩, _⟩ := cells8R V5.out
      have hz4 := lt_of_block V4.out
      have hz5 := lt_of_block V5.out
      go_wp2_with fail
      refine bodyPost_ret (v := .agg #[.int .i64 1, .string T, .int .i64 ty, .int .i64 tn, .string ts, .slice tA tm tc, .slice none 0 0, .slice none 0 0]) (by simp [results, Tryd.results28, go_sem, c0, c1, c2, c3, c4, c5, c6, c7]) rfl ?_
      rw [GG.out]
      exact finRB ⟨1, T, ty, tn, ts, tA, tm, tc, none, 0, 0, none, 0, 0⟩ HG4.out KK.out RR.out HF.out HA4.out hn4r
    have GG : Hid (oneG L n rec 1 i left = .ok (.mk 1 T t [] [], left) (q + 1)) := Lib.hid (by rw [GB.out, tk_ok ht, bind_ok])
    clear ht
    replace RR := Lib.hid ru16
    replace KK := Lib.hid (KeepR.trans' KK.out ku16)
    replace V4 := Lib.hid ((ku16.block g4 (lt_of_block V4.out) hn4r).trans V4.out)
    replace V5 := Lib.hid ((ku16.block g5 (lt_of_block V5.out) hn5r).trans V5.out)
    replace TT := Lib.hid (TT.out.keep fun x hx => ku16.block x (Nat.lt_of_lt_of_le hx.2 ST.out) (by have h1 := hx.1; have := SL.out; omega))
    replace ST := Lib.hid (Nat.le_trans ST.out ku16.size)
    clear ku16 ru16
    obtain ⟨⟨c0, c1, c2, c3, c4, c5, c6, c7⟩, f0, f1, f2, f3, f4, f5, f6, f7⟩ := cells8R V4.out
    obtain ⟨⟨a0, a1, a2, a3, a4, a5, a6, a7⟩, _⟩ := cells8R V5.out
    have hz4 := lt_of_block V4.out
    have hz5 := lt_of_block V5.out
    go_wp2_with fail
    refine bodyPost_ret (v := .agg #[.int .i64 1, .string T, .int .i64 ty, .int .i64 tn, .string ts, .slice tA tm tc, .slice none 0 0, .slice none 0 0]) (by simp [results, Tryd.results28, go_sem, c0, c1, c2, c3, c4, c5, c6, c7]) rfl ?_
    rw [GG.out]
    exact finRO (F := Made u8 u12) ⟨1, T, ty, tn, ts, tA, tm, tc, none, 0, 0, none, 0, 0⟩ HG4.out KK.out RR.out HA4.out hn4r (stO_flatR (show i64in 1 from by unfold i64in; omega) HSZ.out TT.out (fun _ h => h)) (fun b h => ⟨by have h1 := h.1; have := ST.out; have := SL.out; have := HG5.out; omega, Nat.lt_of_lt_of_le h.2 ST.out⟩)
end Go.Proofs.YtdanlgmpgdipnaaDoor
