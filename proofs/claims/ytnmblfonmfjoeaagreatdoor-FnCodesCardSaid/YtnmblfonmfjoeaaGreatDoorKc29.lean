/- Lemmas for the row. -/
import Derived.Test.YtnmblfonmfjoeaaGreatDoorKc27
namespace Go.Proofs.YtnmblfonmfjoeaaGreatDoor
open Go.RowKit
set_option linter.unusedVariables false
theorem TmO.leafD {w : World} {F : Nat → Prop} {k m : Int} {s : ByteArray} (hk : i64in k) (hm : i64in m) (hs : s.size ≤ maxLen) : TmO w F [.int .i64 k, .int .i64 m, .string s, .slice none 0 0] (.mk k m s []) :=
 TmO.mk' (kids := []) hk hm hs (Nat.le_refl _) (by simp [maxLen]) ⟨[], fun _ _ => False, RowO.nil _ _ _ _ _, fun i h => absurd h (by simp)⟩
theorem TmRowO.put4 {w : World} {F : Nat → Prop} {A : Option Addr} {ts : List Tm} (h : TmRowO w F A ts) {g : Nat} (hg : ¬ F g) (o : Nat) (x : V4) : TmRowO (put4 w g o x) F A ts :=
 (((h.set (p := ⟨g, o, none⟩) hg _).set (p := ⟨g, o + 1, none⟩) hg _).set (p := ⟨g, o + 2, none⟩) hg _).set (p := ⟨g, o + 3, none⟩) hg _
def RetDO (w : World) (p : Nat) (A : Option Addr) (c : Nat) (code : List UInt8) (r : Tm × Cur) (e : Ending) (w' : World) : Prop :=
 ∃ k n s A' m c', e = .returned (.agg #[.int .i64 k, .int .i64 n, .string s, .slice A' m c']) ∧ TmO w' (Made w w') [.int .i64 k, .int .i64 n, .string s, .slice A' m c'] r.1 ∧ CurAt w' p A c code r.2 ∧ Keep (fun b => b ≠ p) w w'
abbrev DrCO (d : Nat) : Prop := ∀ (p : Nat) (A : Option Addr) (c : Nat) (code : List UInt8) (k : Cur) (w : World), Rd w 1 A code.length (bv code) → code.length ≤ 1048576 → c ≤ maxLen → CurAt w p A c code k →
 Calls Tryz.prog 96 #[.pointer (some ⟨p, 0, none⟩), .int .i64 (d : Int)] w (RetDO w p A c code (termD code d k))
theorem row_oneO {lo : Nat} {u w : World} {k n : Int} {s : ByteArray} {A : Option Addr} {m c : Nat} {t : Tm} (h : TmO w (Made u w) [.int .i64 k, .int .i64 n, .string s, .slice A m c] t) (hlo : lo ≤ u.heap.size) (hlw : lo ≤ w.heap.size) :
  TmRowO (w.alloc (.cells #[.int .i64 k, .int .i64 n, .string s, .slice A m c] 43)) (fun b => lo ≤ b ∧ b < (w.alloc (.cells #[.int .i64 k, .int .i64 n, .string s, .slice A m c] 43)).heap.size) (some ⟨w.heap.size, 0, none⟩) [t] := by
 have hT := h.keep (w' := w.alloc (.cells #[.int .i64 k, .int .i64 n, .string s, .slice A m c] 43)) (fun b hb => heap_alloc_lt hb.2)
 have hh := heap_alloc_new w (.cells #[.int .i64 k, .int .i64 n, .string s, .slice A m c] 43)
 refine ⟨[.int .i64 k, .int .i64 n, .string s, .slice A m c], fun _ => Made u w, ⟨⟨rfl, fun _ => ⟨w.heap.size, 0, rfl, fun j x hx => ?_⟩⟩, fun _ => ⟨w.heap.size, 0, _, _, rfl, ⟨hlw, by simp⟩, hh, fun _ _ hb => by have := hb.2; omega⟩, fun _ b _ hb => ⟨by have := hb.1; omega, by have := hb.2; simp; omega⟩, fun i j b hi hj hne _ _ => by simp at hi hj; omega⟩, fun i hi => ?_⟩
 ·rw [Lib.cell_of_heap hh]
  rw [Nat.zero_add]
  simpa using hx
 ·have : i = 0 := by simp at hi; omega
  subst this
  exact hT
theorem row_twoO {lo : Nat} {u v w : World} {k n : Int} {s : ByteArray} {A : Option Addr} {m c : Nat} {t : Tm} {k' n' : Int} {s' : ByteArray} {A' : Option Addr} {m' c' : Nat} {t' : Tm} (h : TmO w (Made u v) [.int .i64 k, .int .i64 n, .string s, .slice A m c] t) (h' : TmO w (Made v w) [.int .i64 k', .int .i64 n', .string s', .slice A' m' c'] t') (hlo : lo ≤ u.heap.size) (huv : u.heap.size ≤ v.heap.size) (hvw : v.heap.size ≤ w.heap.size) (hlw : lo ≤ w.heap.size) :
  TmRowO (w.alloc (.cells #[.int .i64 k, .int .i64 n, .string s, .slice A m c, .int .i64 k', .int .i64 n', .string s', .slice A' m' c'] 43)) (fun b => lo ≤ b ∧ b < (w.alloc (.cells #[.int .i64 k, .int .i64 n, .string s, .slice A m c, .int .i64 k', .int .i64 n', .string s', .slice A' m' c'] 43)).heap.size) (some ⟨w.heap.size, 0, none⟩) [t, t'] := by
 have hT := h.keep (w' := w.alloc (.cells #[.int .i64 k, .int .i64 n, .string s, .slice A m c, .int .i64 k', .int .i64 n', .string s', .slice A' m' c'] 43)) (fun b hb => heap_alloc_lt (by have := hb.2; omega))
 have hT' := h'.keep (w' := w.alloc (.cells #[.int .i64 k, .int .i64 n, .string s, .slice A m c, .int .i64 k', .int .i64 n', .string s', .slice A' m' c'] 43)) (fun b hb => heap_alloc_lt hb.2)
 have hh := heap_alloc_new w (.cells #[.int .i64 k, .int .i64 n, .string s, .slice A m c, .int .i64 k', .int .i64 n', .string s', .slice A' m' c'] 43)
 refine ⟨[.int .i64 k, .int .i64 n, .string s, .slice A m c, .int .i64 k', .int .i64 n', .string s', .slice A' m' c'], fun i => if i = 0 then Made u v else Made v w, ⟨⟨rfl, fun _ => ⟨w.heap.size, 0, rfl, fun j x hx => ?_⟩⟩, fun _ => ⟨w.heap.size, 0, _, _, rfl, ⟨hlw, by simp⟩, hh, fun i _ hb => ?_⟩, fun i b _ hb => ?_, fun i j b hi hj hne h1 h2 => ?_⟩, fun i hi => ?_⟩
 ·rw [Lib.cell_of_heap hh]
  rw [Nat.zero_add]
  simpa using hx
 ·dsimp only at hb
  split at hb
  ·have := hb.2; omega
  ·have := hb.2; omega
 ·dsimp only at hb
  split at hb
  ·exact ⟨by have := hb.1; omega, by have := hb.2; simp; omega⟩
  ·exact ⟨by have := hb.1; omega, by have := hb.2; simp; omega⟩
 ·dsimp only at h1 h2
  simp only [List.length_cons, List.length_nil] at hi hj
  split at h1
  ·rw [if_neg (by omega)] at h2
   have := h1.2; have := h2.1; omega
  ·rw [if_pos (by omega)] at h2
   have := h1.1; have := h2.2; omega
 ·have hi2 : i = 0 ∨ i = 1 := by simp at hi; omega
  rcases hi2 with rfl | rfl
  ·exact hT
  ·exact hT'
set_option maxHeartbeats 3200000 in
set_option maxRecDepth 100000 in
theorem spec_l03TermO (d : Nat) (hd : d ≤ 100) : DrCO d := by
 induction d with
 | zero =>
  intro p A c code k w rd hl hc hk
  have RD := qh rd
  have HK := qh hk
  have hb := belowD_bd code (n := 12) (by decide) k
  have hpl := lt_of_block hk.at'
  have TZ0 := qh (@termD_zero code k)
  clear rd hk
  go_enter Tryz.func96, Tryz.ntmps96
  go_wp2_with fail
  refine (spec_l01Below 12 p A c code k _ (RD.out.alloc _) hl hc (HK.out.keep zB) (by omega)).mono ?_
  rintro e w1 ⟨rfl, k1, kp1⟩
  have K1 := qh k1
  have P1 : Hid (Keep (fun b => b ≠ p) w w1) := qh ((Keep.alloc (Keep.refl _ _) _).trans kp1 (fun _ _ h => h))
  have R1 := qh (rd_apart (RD.out.alloc _) (HK.out.keep zB) kp1)
  have X1 : Hid (BoxZ w1 w.heap.size) := qh (BoxZ.keep ⟨heap_alloc_new _ _⟩ kp1 (by omega))
  have hs1 := kp1.size
  simp only [World.size_alloc] at hs1
  clear k1 kp1
  generalize hx : belowD code 12 k = y at *
  obtain ⟨x, k1⟩ := y
  have HX := qh hx
  clear hx
  simp only at hb K1
  have TZ := TZ0.out
  clear TZ0
  simp only at TZ
  obtain ⟨h0, h1⟩ := hb
  by_cases h6 : 6 ≤ x
  ·rw [if_pos h6] at TZ
   by_cases h3 : x - 6 < 3
   ·rw [leafD_num h3] at TZ
    have TZ := qh TZ
    go_wp2_with fail
    refine (pick_nums _ p (by omega) A c code k1 _ (Rd.new _ 1 8 _ _ rfl) (R1.out.alloc _) hl hc (K1.out.keep zB)).mono ?_
    rintro e w2 ⟨rfl, k2, kp2⟩
    have K2 := qh k2
    have P2 : Hid (Keep (fun b => b ≠ p) w w2) := qh ((P1.out.alloc _).trans kp2 (fun _ _ h => h))
    have hs2 := kp2.size
    simp only [World.size_alloc] at hs2
    have X2 := (X1.out.below (Below.alloc (Below.refl w1.heap.size w1) (Nat.le_refl _) _)).keep kp2 (by omega)
    obtain ⟨⟨c0, c1, c2, c3⟩, f0, f1, f2, f3⟩ := X2.cells
    clear k2 kp2
    go_wp2_with fail
    refine bodyPost_ret (v := .agg #[.int .i64 1, .int .i64 (pickI tmNums (belowD code 8 k1).1), .string ⟨#[]⟩, .slice none 0 0]) (by simp [results, Tryz.results96, go_sem, c0, c1, c2, c3]) rfl ?_
    rw [TZ.out]
    refine ⟨_, _, _, _, _, _, rfl, TmO.leafD (by unfold i64in; omega) (pickI_in i64in tmNums_in (by have := belowD_bd code (n := 8) (by decide) k1; show (belowD code 8 k1).1.toNat < 8; omega)) (Nat.zero_le _), put_cur (x := vt _ _ _ _ _ _) K2.out (by omega) , put_keep (x := vt _ _ _ _ _ _) P2.out (Nat.le_refl _)⟩
   ·rw [leafD_var h3] at TZ
    have TZ := qh TZ
    go_wp2_with fail
    refine (pick_names _ p (by omega) A c code k1 _ (Rd.new _ 1 5 _ _ rfl) (R1.out.alloc _) hl hc (K1.out.keep zB)).mono ?_
    rintro e w2 ⟨rfl, k2, kp2⟩
    have K2 := qh k2
    have P2 : Hid (Keep (fun b => b ≠ p) w w2) := qh ((P1.out.alloc _).trans kp2 (fun _ _ h => h))
    have hs2 := kp2.size
    simp only [World.size_alloc] at hs2
    have X2 := (X1.out.below (Below.alloc (Below.refl w1.heap.size w1) (Nat.le_refl _) _)).keep kp2 (by omega)
    obtain ⟨⟨c0, c1, c2, c3⟩, f0, f1, f2, f3⟩ := X2.cells
    clear k2 kp2
    go_wp2_with fail
    refine bodyPost_ret (v := .agg #[.int .i64 2, .int .i64 0, .string (pickS tmNames (belowD code 5 k1).1), .slice none 0 0]) (by simp [results, Tryz.results96, go_sem, c0, c1, c2, c3]) rfl ?_
    rw [TZ.out]
    refine ⟨_, _, _, _, _, _, rfl, TmO.leafD (by unfold i64in; omega) (by unfold i64in; omega) (pickS_in (fun s => s.size ≤ maxLen) tmNames_in (by have := belowD_bd code (n := 5) (by decide) k1; show (belowD code 5 k1).1.toNat < 5; omega)), put_cur (x := vt _ _ _ _ _ _) K2.out (by omega) , put_keep (x := vt _ _ _ _ _ _) P2.out (Nat.le_refl _)⟩
  ·rw [if_neg h6] at TZ
   by_cases h3 : x < 3
   ·rw [leafD_num h3] at TZ
    have TZ := qh TZ
    go_wp2_with fail
    refine (pick_nums _ p (by omega) A c code k1 _ (Rd.new _ 1 8 _ _ rfl) (R1.out.alloc _) hl hc (K1.out.keep zB)).mono ?_
    rintro e w2 ⟨rfl, k2, kp2⟩
    have K2 := qh k2
    have P2 : Hid (Keep (fun b => b ≠ p) w w2) := qh ((P1.out.alloc _).trans kp2 (fun _ _ h => h))
    have hs2 := kp2.size
    simp only [World.size_alloc] at hs2
    have X2 := (X1.out.below (Below.alloc (Below.refl w1.heap.size w1) (Nat.le_refl _) _)).keep kp2 (by omega)
    obtain ⟨⟨c0, c1, c2, c3⟩, f0, f1, f2, f3⟩ := X2.cells
    clear k2 kp2
    go_wp2_with fail
    refine bodyPost_ret (v := .agg #[.int .i64 1, .int .i64 (pickI tmNums (belowD code 8 k1).1), .string ⟨#[]⟩, .slice none 0 0]) (by simp [results, Tryz.results96, go_sem, c0, c1, c2, c3]) rfl ?_
    rw [TZ.out]
    refine ⟨_, _, _, _, _, _, rfl, TmO.leafD (by unfold i64in; omega) (pickI_in i64in tmNums_in (by have := belowD_bd code (n := 8) (by decide) k1; show (belowD code 8 k1).1.toNat < 8; omega)) (Nat.zero_le _), put_cur (x := vt _ _ _ _ _ _) K2.out (by omega) , put_keep (x := vt _ _ _ _ _ _) P2.out (Nat.le_refl _)⟩
   ·rw [leafD_var h3] at TZ
    have TZ := qh TZ
    go_wp2_with fail
    refine (pick_names _ p (by omega) A c code k1 _ (Rd.new _ 1 5 _ _ rfl) (R1.out.alloc _) hl hc (K1.out.keep zB)).mono ?_
    rintro e w2 ⟨rfl, k2, kp2⟩
    have K2 := qh k2
    have P2 : Hid (Keep (fun b => b ≠ p) w w2) := qh ((P1.out.alloc _).trans kp2 (fun _ _ h => h))
    have hs2 := kp2.size
    simp only [World.size_alloc] at hs2
    have X2 := (X1.out.below (Below.alloc (Below.refl w1.heap.size w1) (Nat.le_refl _) _)).keep kp2 (by omega)
    obtain ⟨⟨c0, c1, c2, c3⟩, f0, f1, f2, f3⟩ := X2.cells
    clear k2 kp2
    go_wp2_with fail
    refine bodyPost_ret (v := .agg #[.int .i64 2, .int .i64 0, .string (pickS tmNames (belowD code 5 k1).1), .slice none 0 0]) (by simp [results, Tryz.results96, go_sem, c0, c1, c2, c3]) rfl ?_
    rw [TZ.out]
    refine ⟨_, _, _, _, _, _, rfl, TmO.leafD (by unfold i64in; omega) (by unfold i64in; omega) (pickS_in (fun s => s.size ≤ maxLen) tmNames_in (by have := belowD_bd code (n := 5) (by decide) k1; show (belowD code 5 k1).1.toNat < 5; omega)), put_cur (x := vt _ _ _ _ _ _) K2.out (by omega) , put_keep (x := vt _ _ _ _ _ _) P2.out (Nat.le_refl _)⟩
 | succ d ih =>
  intro p A c code k w rd hl hc hk
  have RD := qh rd
  have HK := qh hk
  have hb := belowD_bd code (n := 12) (by decide) k
  have hpl := lt_of_block hk.at'
  have TL0 := qh (@termD_leaf code d k)
  have TN0 := qh (@termD_not code d k)
  have TT0 := qh (@termD_two code d k)
  have hdz : ((d + 1 : Nat) : Int) - 1 = (d : Int) := by omega
  have hdp : ¬ (((d + 1 : Nat) : Int) ≤ 0) := by omega
  clear rd hk
  go_enter Tryz.func96, Tryz.ntmps96
  go_wp2_with fail
  refine (spec_l01Below 12 p A c code k _ (RD.out.alloc _) hl hc (HK.out.keep zB) (by omega)).mono ?_
  rintro e w1 ⟨rfl, k1, kp1⟩
  have K1 := qh k1
  have P1 : Hid (Keep (fun b => b ≠ p) w w1) := qh ((Keep.alloc (Keep.refl _ _) _).trans kp1 (fun _ _ h => h))
  have R1 := qh (rd_apart (RD.out.alloc _) (HK.out.keep zB) kp1)
  have X1 : Hid (BoxZ w1 w.heap.size) := qh (BoxZ.keep ⟨heap_alloc_new _ _⟩ kp1 (by omega))
  have hs1 := kp1.size
  simp only [World.size_alloc] at hs1
  clear k1 kp1
  generalize hx : belowD code 12 k = y at *
  obtain ⟨x, k1⟩ := y
  have HX := qh hx
  clear hx
  simp only at hb K1
  have TL := TL0.out
  have TN := TN0.out
  have TT := TT0.out
  simp only at TL TN TT
  clear TL0 TN0 TT0
  obtain ⟨h0, h1⟩ := hb
  by_cases h6 : x < 6
  ·have TZ := TL h6
   clear TL TN TT ih hdz
   by_cases h3 : x < 3
   ·rw [leafD_num h3] at TZ
    have TZ := qh TZ
    go_wp2_with fail
    refine (pick_nums _ p (by omega) A c code k1 _ (Rd.new _ 1 8 _ _ rfl) (R1.out.alloc _) hl hc (K1.out.keep zB)).mono ?_
    rintro e w2 ⟨rfl, k2, kp2⟩
    have K2 := qh k2
    have P2 : Hid (Keep (fun b => b ≠ p) w w2) := qh ((P1.out.alloc _).trans kp2 (fun _ _ h => h))
    have hs2 := kp2.size
    simp only [World.size_alloc] at hs2
    have X2 := (X1.out.below (Below.alloc (Below.refl w1.heap.size w1) (Nat.le_refl _) _)).keep kp2 (by omega)
    obtain ⟨⟨c0, c1, c2, c3⟩, f0, f1, f2, f3⟩ := X2.cells
    clear k2 kp2
    go_wp2_with fail
    refine bodyPost_ret (v := .agg #[.int .i64 1, .int .i64 (pickI tmNums (belowD code 8 k1).1), .string ⟨#[]⟩, .slice none 0 0]) (by simp [results, Tryz.results96, go_sem, c0, c1, c2, c3]) rfl ?_
    rw [TZ.out]
    refine ⟨_, _, _, _, _, _, rfl, TmO.leafD (by unfold i64in; omega) (pickI_in i64in tmNums_in (by have := belowD_bd code (n := 8) (by decide) k1; show (belowD code 8 k1).1.toNat < 8; omega)) (Nat.zero_le _), put_cur (x := vt _ _ _ _ _ _) K2.out (by omega) , put_keep (x := vt _ _ _ _ _ _) P2.out (Nat.le_refl _)⟩
   ·rw [leafD_var h3] at TZ
    have TZ := qh TZ
    go_wp2_with fail
    refine (pick_names _ p (by omega) A c code k1 _ (Rd.new _ 1 5 _ _ rfl) (R1.out.alloc _) hl hc (K1.out.keep zB)).mono ?_
    rintro e w2 ⟨rfl, k2, kp2⟩
    have K2 := qh k2
    have P2 : Hid (Keep (fun b => b ≠ p) w w2) := qh ((P1.out.alloc _).trans kp2 (fun _ _ h => h))
    have hs2 := kp2.size
    simp only [World.size_alloc] at hs2
    have X2 := (X1.out.below (Below.alloc (Below.refl w1.heap.size w1) (Nat.le_refl _) _)).keep kp2 (by omega)
    obtain ⟨⟨c0, c1, c2, c3⟩, f0, f1, f2, f3⟩ := X2.cells
    clear k2 kp2
    go_wp2_with fail
    refine bodyPost_ret (v := .agg #[.int .i64 2, .int .i64 0, .string (pickS tmNames (belowD code 5 k1).1), .slice none 0 0]) (by simp [results, Tryz.results96, go_sem, c0, c1, c2, c3]) rfl ?_
    rw [TZ.out]
    refine ⟨_, _, _, _, _, _, rfl, TmO.leafD (by unfold i64in; omega) (by unfold i64in; omega) (pickS_in (fun s => s.size ≤ maxLen) tmNames_in (by have := belowD_bd code (n := 5) (by decide) k1; show (belowD code 5 k1).1.toNat < 5; omega)), put_cur (x := vt _ _ _ _ _ _) K2.out (by omega) , put_keep (x := vt _ _ _ _ _ _) P2.out (Nat.le_refl _)⟩
  ·by_cases h7 : x = 6
   ·have TZ := qh (TN h7)
    clear TL TN TT
    subst h7
    go_wp2_with fail
    refine (ih (by omega) p A c code k1 _ R1.out hl hc K1.out).mono ?_
    rintro e w2 ⟨a2, n2, s2, A2, m2, c2, rfl, t2, q2, kp2⟩
    have T2 := qh t2
    have K2 := qh q2
    have R2 := qh (rd_apart R1.out K1.out kp2)
    have P2 := qh (P1.out.trans kp2 (fun _ _ h => h))
    have X2 := qh (X1.out.keep kp2 (by omega))
    have hs2 := kp2.size
    have B2 := qh (row_oneO (lo := w.heap.size + 1) T2.out (by omega) (by omega))
    have X3 := X2.out.below (Below.alloc (Below.refl w2.heap.size w2) (Nat.le_refl _) (.cells #[.int .i64 a2, .int .i64 n2, .string s2, .slice A2 m2 c2] 43))
    obtain ⟨⟨c0, c1, c2', c3⟩, f0, f1, f2, f3⟩ := X3.cells
    clear t2 q2 kp2
    go_wp2_with fail
    refine bodyPost_ret (v := .agg #[.int .i64 8, .int .i64 0, .string ⟨#[]⟩, .slice (some ⟨w2.heap.size, 0, none⟩) 1 1]) (by simp [results, Tryz.results96, go_sem, c0, c1, c2', c3]) rfl ?_
    rw [TZ.out]
    refine ⟨_, _, _, _, _, _, rfl, TmO.mk' (k := 8) (n := 0) (s := ByteArray.empty) (c := 1) (kids := [(termD code d k1).1]) (by unfold i64in; omega) (by unfold i64in; omega) (Nat.zero_le _) (by simp) (by simp [maxLen]) ?_, put_cur (x := vt _ _ _ _ _ _) (K2.out.keep zB) (by omega), put_keep (x := vt _ _ _ _ _ _) (P2.out.alloc _) (Nat.le_refl _)⟩
    exact (B2.out.put4 (g := w.heap.size) (fun h => by have := h.1; omega) 0 (vt _ _ _ _ _ _)).sub (fun b hb => ⟨by have := hb.1; omega, by have := hb.2; simp only [World.size_setCell]; exact this⟩)
   ·have TZ := qh (TT (by omega))
    have h8 : ¬ x = 6 := h7
    have hxk := belowD_bd code (n := 6) (by decide) k1
    have hki := qh (pickI_in i64in tmKinds_in (x := (belowD code 6 k1).1) (by show _ < 6; omega))
    clear TL TN TT
    go_wp2_with fail
    refine (pick_kinds _ p (by omega) A c code k1 _ (Rd.new _ 1 6 _ _ rfl) (R1.out.alloc _) hl hc (K1.out.keep zB)).mono ?_
    rintro e w2 ⟨rfl, k2, kp2⟩
    have K2 := qh k2
    have P2 : Hid (Keep (fun b => b ≠ p) w w2) := qh ((P1.out.alloc _).trans kp2 (fun _ _ h => h))
    have R2 := qh (rd_apart (R1.out.alloc _) (K1.out.keep zB) kp2)
    have hs2 := kp2.size
    simp only [World.size_alloc] at hs2
    have X2 := qh ((X1.out.below (Below.alloc (Below.refl w1.heap.size w1) (Nat.le_refl _) _)).keep kp2 (by omega))
    clear k2 kp2 hxk
    generalize hx6 : belowD code 6 k1 = y6 at *
    obtain ⟨x6, k6⟩ := y6
    clear hx6
    simp only at K2 hki
    have TZ := qh TZ.out
    go_wp2_with fail
    refine (ih (by omega) p A c code k6 _ R2.out hl hc K2.out).mono ?_
    rintro e w3 ⟨a3, n3, s3, A3, m3, c3, rfl, t3, q3, kp3⟩
    have T3 := qh t3
    have K3 := qh q3
    have R3 := qh (rd_apart R2.out K2.out kp3)
    have P3 := qh (P2.out.trans kp3 (fun _ _ h => h))
    have X3 := qh (X2.out.keep kp3 (by omega))
    have hs3 := kp3.size
    go_wp2_with fail
    refine (ih (by omega) p A c code _ _ R3.out hl hc K3.out).mono ?_
    rintro e w4 ⟨a4, n4, s4, A4, m4, c4, rfl, t4, q4, kp4⟩
    have T4 := qh t4
    have K4 := qh q4
    have R4 := qh (rd_apart R3.out K3.out kp4)
    have P4 := qh (P3.out.trans kp4 (fun _ _ h => h))
    have X4 := qh (X3.out.keep kp4 (by omega))
    have hs4 := kp4.size
    have U3 := T3.out.keep (w' := w4) (fun b hb => kp4.block b hb.2 (by have := hb.1; omega))
    have B2 := qh (row_twoO (lo := w.heap.size + 1) U3 T4.out (by omega) (by omega) (by omega) (by omega))
    have X5 := X4.out.below (Below.alloc (Below.refl w4.heap.size w4) (Nat.le_refl _) (.cells #[.int .i64 a3, .int .i64 n3, .string s3, .slice A3 m3 c3, .int .i64 a4, .int .i64 n4, .string s4, .slice A4 m4 c4] 43))
    obtain ⟨⟨d0, d1, d2, d3⟩, f0, f1, f2, f3⟩ := X5.cells
    clear t3 q3 kp3 t4 q4 kp4 U3
    go_wp2_with fail
    refine bodyPost_ret (v := .agg #[.int .i64 (pickI tmKinds x6), .int .i64 0, .string ⟨#[]⟩, .slice (some ⟨w4.heap.size, 0, none⟩) 2 2]) (by simp [results, Tryz.results96, go_sem, d0, d1, d2, d3]) rfl ?_
    rw [TZ.out]
    refine ⟨_, _, _, _, _, _, rfl, TmO.mk' (k := pickI tmKinds x6) (n := 0) (s := ByteArray.empty) (c := 2) (kids := [(termD code d k6).1, (termD code d (termD code d k6).2).1]) hki.out (by unfold i64in; omega) (Nat.zero_le _) (by simp) (by simp [maxLen]) ?_, put_cur (x := vt _ _ _ _ _ _) (K4.out.keep zB) (by omega), put_keep (x := vt _ _ _ _ _ _) (P4.out.alloc _) (Nat.le_refl _)⟩
    exact (B2.out.put4 (g := w.heap.size) (fun h => by have := h.1; omega) 0 (vt _ _ _ _ _ _)).sub (fun b hb => ⟨by have := hb.1; omega, by have := hb.2; simp only [World.size_setCell]; exact this⟩)
def GrwO (base : Nat) (w : World) (v : Value) (l : List St) : Prop :=
 ∃ (xs : List V8) (G : Nat → Nat → Prop), xs.length = l.length ∧ OwnX base w 71 8 v l.length (xs.flatMap V8.cells) ∧ (∀ i b, i < l.length → G i b → base ≤ b ∧ b < w.heap.size ∧ v.ownBlock ≠ some b) ∧ (∀ i j b, i < l.length → j < l.length → i ≠ j → G i b → G j b → False) ∧ ∀ i (h : i < l.length) (h' : i < xs.length), StO w (G i) xs[i] l[i]
theorem GrwO.slice {base : Nat} {w : World} {v : Value} {l : List St} (h : GrwO base w v l) : ∃ A c, v = .slice A l.length c ∧ l.length ≤ c ∧ c ≤ maxLen := by
 obtain ⟨xs, G, hl, ow, _⟩ := h
 obtain ⟨A, c, rfl, hc⟩ := own_slice ow.1
 exact ⟨A, c, rfl, hc, own_cap' ow.own⟩
theorem GrwO.nil {base : Nat} {w : World} (hb : base ≤ w.heap.size) : GrwO base w (.slice none 0 0) [] :=
 ⟨[], fun _ _ => False, rfl, ⟨World.ownsRow_nil _ _ _ _, hb⟩, fun i b h => absurd h (by simp), fun i j b h => absurd h (by simp), fun i h => absurd h (by simp)⟩
theorem GrwO.empty {base : Nat} {w : World} (hb : base ≤ w.heap.size) : GrwO base (w.alloc (.cells #[] 71)) (.slice (some ⟨w.heap.size, 0, none⟩) 0 0) [] :=
 ⟨[], fun _ _ => False, rfl, ⟨World.ownsRow_lit w #[] 0 hb (by simp [maxLen]) rfl, by simp; omega⟩, fun i b h => absurd h (by simp), fun i j b h => absurd h (by simp), fun i h => absurd h (by simp)⟩
theorem GrwO.keep {base : Nat} {w w' : World} {v : Value} {l : List St} {S : Nat → Prop} (h : GrwO base w v l) (hk : Keep S w w') (hS : ∀ b, base ≤ b → b < w.heap.size → S b) : GrwO base w' v l := by
 obtain ⟨xs, G, hl, ow, hG, hd, hx⟩ := h
 refine ⟨xs, G, hl, ow.keep hk (fun b hb => hS b (ow.lt b hb).1 (ow.lt b hb).2), fun i b hi hb => ?_, hd, fun i hi hi' => (hx i hi hi').keep fun b hb => ?_⟩
 ·have := hG i b hi hb
  exact ⟨this.1, Nat.lt_of_lt_of_le this.2.1 hk.size, this.2.2⟩
 ·have := hG i b hi hb
  exact hk.block b this.2.1 (hS b this.1 this.2.1)
theorem GrwO.below {base : Nat} {w w' : World} {v : Value} {l : List St} (h : GrwO base w v l) (hb : Below w.heap.size w w') : GrwO base w' v l := h.keep (Keep.of_below (S := fun _ => True) hb) (fun _ _ _ => trivial)
theorem grw_app {base : Nat} {w0 w1 w2 : World} {v v' : Value} {l : List St} {xs : List V8} {G : Nat → Nat → Prop} {x : V8} {g : St} {S : Nat → Prop}
  (hl : xs.length = l.length) (ow : OwnX base w0 71 8 v l.length (xs.flatMap V8.cells)) (hG : ∀ i b, i < l.length → G i b → base ≤ b ∧ b < w0.heap.size ∧ v.ownBlock ≠ some b) (hd : ∀ i j b, i < l.length → j < l.length → i ≠ j → G i b → G j b → False) (hx : ∀ i (h : i < l.length) (h' : i < xs.length), StO w0 (G i) xs[i] l[i])
  (hk : Keep S w0 w1) (hS : ∀ b, base ≤ b → b < w0.heap.size → S b) (ht : StO w1 (Made w0 w1) x g) (own3 : Own (cutX base w1) w2 71 8 v' (l.length + 1) (xs.flatMap V8.cells ++ x.cells)) (gr : Grew v v' w1 w2) : GrwO base w2 v' (l ++ [g]) := by
 have h01 := hk.size
 have h12 := gr.keep.size
 have hb0 := ow.2
 have hlt := ow.lt
 have key : ∀ b, b < w1.heap.size → v.ownBlock ≠ some b → v'.ownBlock ≠ some b := by
  intro b hb hv e
  rcases gr.lies with h1 | ⟨q, h1, h2⟩
  ·exact hv (h1 ▸ e)
  ·rw [h1] at e; injection e with e; omega
 have hn : ∀ b, w0.heap.size ≤ b → v.ownBlock ≠ some b := fun b hb e => by have := hlt b e; omega
 have hlen : (l ++ [g]).length = l.length + 1 := by simp
 refine ⟨xs ++ [x], fun i b => if i < l.length then G i b else Made w0 w1 b, by simp [hl], ?_, fun i b hi hb => ?_, fun i j b hi hj hne h1 h2 => ?_, fun i hi hi' => ?_⟩
 ·rw [hlen, List.flatMap_append]
  have e1 : [x].flatMap V8.cells = x.cells := by simp
  rw [e1]
  exact OwnX.of (by omega) own3
 ·by_cases e : i < l.length
  ·simp only [e, if_true] at hb
   have := hG i b e hb
   exact ⟨this.1, by omega, key b (by omega) this.2.2⟩
  ·simp only [e, if_false] at hb
   have h1 := hb.1
   have h2 := hb.2
   exact ⟨by omega, by omega, key b h2 (hn b h1)⟩
 ·rw [hlen] at hi hj
  by_cases e : i < l.length
  ·by_cases e' : j < l.length
   ·simp only [e, e', if_true] at h1 h2; exact hd i j b e e' hne h1 h2
   ·simp only [e, e', if_true, if_false] at h1 h2; have := hG i b e h1; have := h2.1; omega
  ·by_cases e' : j < l.length
   ·simp only [e, e', if_true, if_false] at h1 h2; have := hG j b e' h2; have := h1.1; omega
   ·omega
 ·rw [hlen] at hi
  by_cases e : i < l.length
  ·have e2 : i < xs.length := by omega
   simp only [e, if_true]
   rw [List.getElem_append_left e2, List.getElem_append_left e]
   have hb := fun b hb => hG i b e hb
   exact ((hx i e e2).keep fun b q => hk.block b (hb b q).2.1 (hS b (hb b q).1 (hb b q).2.1)).keep fun b q => gr.keep.block b (by have := (hb b q).2.1; omega) (hb b q).2.2
  ·have e2 : i = l.length := by omega
   subst e2
   simp only [Nat.lt_irrefl, if_false]
   have e3 : (xs ++ [x])[l.length] = x := by simp [← hl]
   have e4 : (l ++ [g])[l.length] = g := by simp
   rw [e3, e4]
   exact ht.keep fun b q => gr.keep.block b q.2 (hn b q.1)
theorem GrwO.row {w0 w : World} {A : Option Addr} {c : Nat} {l : List St} (h : GrwO w0.heap.size w (.slice A l.length c) l) : StRowO w (Made w0 w) A l := by
 obtain ⟨xs, G, hl, ow, hG, hd, hx⟩ := h
 refine stRowO_of (xs := xs) (G := G) hl ⟨ow.own.rd, fun hn => ?_, fun i b hi hb => ⟨(hG i b hi hb).1, (hG i b hi hb).2.1⟩, hd⟩ hx
 rcases ow.1.2 with ⟨h, _⟩ | ⟨g, cap, cur, h, hb, hg, _⟩
 ·injection h with _ h2; omega
 ·injection h with h1 h2
  subst h1
  exact ⟨g, 0, cur, _, rfl, ⟨hb, lt_of_block hg⟩, hg, fun i hi hb => (hG i g hi hb).2.2 rfl⟩
end Go.Proofs.YtnmblfonmfjoeaaGreatDoor
