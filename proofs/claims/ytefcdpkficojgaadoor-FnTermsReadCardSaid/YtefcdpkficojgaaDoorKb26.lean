/- Several texts in one: TermDrO, GrewG, GrwSt. -/
import Derived.Test.YtefcdpkficojgaaDoorKb8
import Derived.Test.YtefcdpkficojgaaDoorKb15
import Derived.Test.YtefcdpkficojgaaDoorKb2
import Derived.OneCell
import Derived.Maps.AppendAt
import Derived.Test.YtefcdpkficojgaaDoorKb16
namespace Go.Proofs.YtefcdpkficojgaaDoor
open Go.RowKit
set_option linter.unusedVariables false


theorem TmO.leafD {w : World} {F : Nat → Prop} {k m : Int} {s : ByteArray} (hk : i64in k) (hm : i64in m) (hs : s.size ≤ maxLen) : TmO w F [.int .i64 k, .int .i64 m, .string s, .slice none 0 0] (.mk k m s []) :=
  TmO.mk' (kids := []) hk hm hs (Nat.le_refl _) (by simp [maxLen]) ⟨[], fun _ _ => False, RowO.nil _ _ _ _ _, fun i h => absurd h (by simp)⟩
theorem TmRowO.put4 {w : World} {F : Nat → Prop} {A : Option Addr} {ts : List Tm} (h : TmRowO w F A ts) {g : Nat} (hg : ¬ F g) (o : Nat) (x : V4) : TmRowO (put4 w g o x) F A ts :=
  (((h.set (p := ⟨g, o, none⟩) hg _).set (p := ⟨g, o + 1, none⟩) hg _).set (p := ⟨g, o + 2, none⟩) hg _).set (p := ⟨g, o + 3, none⟩) hg _
def RetDO (w : World) (p : Nat) (A : Option Addr) (c : Nat) (code : List UInt8) (r : Tm × Cur) (e : Ending) (w' : World) : Prop :=
  ∃ k n s A' m c', e = .returned (.agg #[.int .i64 k, .int .i64 n, .string s, .slice A' m c']) ∧ TmO w' (Made w w') [.int .i64 k, .int .i64 n, .string s, .slice A' m c'] r.1 ∧ CurAt w' p A c code r.2 ∧ Keep (fun b => b ≠ p) w w'
abbrev DrCO (d : Nat) : Prop := ∀ (p : Nat) (A : Option Addr) (c : Nat) (code : List UInt8) (k : Cur) (w : World), Rd w 1 A code.length (bv code) → code.length ≤ 1048576 → c ≤ maxLen → CurAt w p A c code k →
  Calls Tryd.prog 100 #[.pointer (some ⟨p, 0, none⟩), .int .i64 (d : Int)] w (RetDO w p A c code (termD code d k))
/-- one term, two terms, laid in a new row -/
theorem row_oneO {lo : Nat} {u w : World} {k n : Int} {s : ByteArray} {A : Option Addr} {m c : Nat} {t : Tm} (h : TmO w (Made u w) [.int .i64 k, .int .i64 n, .string s, .slice A m c] t) (hlo : lo ≤ u.heap.size) (hlw : lo ≤ w.heap.size) :
    TmRowO (w.alloc (.cells #[.int .i64 k, .int .i64 n, .string s, .slice A m c] 24)) (fun b => lo ≤ b ∧ b < (w.alloc (.cells #[.int .i64 k, .int .i64 n, .string s, .slice A m c] 24)).heap.size) (some ⟨w.heap.size, 0, none⟩) [t] := by
  have hT := h.keep (w' := w.alloc (.cells #[.int .i64 k, .int .i64 n, .string s, .slice A m c] 24)) (fun b hb => heap_alloc_lt hb.2)
  have hh := heap_alloc_new w (.cells #[.int .i64 k, .int .i64 n, .string s, .slice A m c] 24)
  refine ⟨[.int .i64 k, .int .i64 n, .string s, .slice A m c], fun _ => Made u w, ⟨⟨rfl, fun _ => ⟨w.heap.size, 0, rfl, fun j x hx => ?_⟩⟩, fun _ => ⟨w.heap.size, 0, _, _, rfl, ⟨hlw, by simp⟩, hh, fun _ _ hb => by have := hb.2; omega⟩, fun _ b _ hb => ⟨by have := hb.1; omega, by have := hb.2; simp; omega⟩, fun i j b hi hj hne _ _ => by simp at hi hj; omega⟩, fun i hi => ?_⟩
  · rw [Lib.cell_of_heap hh]
    rw [Nat.zero_add]
    simpa using hx
  · have : i = 0 := by simp at hi; omega
    subst this
    exact hT
theorem row_twoO {lo : Nat} {u v w : World} {k n : Int} {s : ByteArray} {A : Option Addr} {m c : Nat} {t : Tm} {k' n' : Int} {s' : ByteArray} {A' : Option Addr} {m' c' : Nat} {t' : Tm} (h : TmO w (Made u v) [.int .i64 k, .int .i64 n, .string s, .slice A m c] t) (h' : TmO w (Made v w) [.int .i64 k', .int .i64 n', .string s', .slice A' m' c'] t') (hlo : lo ≤ u.heap.size) (huv : u.heap.size ≤ v.heap.size) (hvw : v.heap.size ≤ w.heap.size) (hlw : lo ≤ w.heap.size) :
    TmRowO (w.alloc (.cells #[.int .i64 k, .int .i64 n, .string s, .slice A m c, .int .i64 k', .int .i64 n', .string s', .slice A' m' c'] 24)) (fun b => lo ≤ b ∧ b < (w.alloc (.cells #[.int .i64 k, .int .i64 n, .string s, .slice A m c, .int .i64 k', .int .i64 n', .string s', .slice A' m' c'] 24)).heap.size) (some ⟨w.heap.size, 0, none⟩) [t, t'] := by
  have hT := h.keep (w' := w.alloc (.cells #[.int .i64 k, .int .i64 n, .string s, .slice A m c, .int .i64 k', .int .i64 n', .string s', .slice A' m' c'] 24)) (fun b hb => heap_alloc_lt (by have := hb.2; omega))
  have hT' := h'.keep (w' := w.alloc (.cells #[.int .i64 k, .int .i64 n, .string s, .slice A m c, .int .i64 k', .int .i64 n', .string s', .slice A' m' c'] 24)) (fun b hb => heap_alloc_lt hb.2)
  have hh := heap_alloc_new w (.cells #[.int .i64 k, .int .i64 n, .string s, .slice A m c, .int .i64 k', .int .i64 n', .string s', .slice A' m' c'] 24)
  refine ⟨[.int .i64 k, .int .i64 n, .string s, .slice A m c, .int .i64 k', .int .i64 n', .string s', .slice A' m' c'], fun i => if i = 0 then Made u v else Made v w, ⟨⟨rfl, fun _ => ⟨w.heap.size, 0, rfl, fun j x hx => ?_⟩⟩, fun _ => ⟨w.heap.size, 0, _, _, rfl, ⟨hlw, by simp⟩, hh, fun i _ hb => ?_⟩, fun i b _ hb => ?_, fun i j b hi hj hne h1 h2 => ?_⟩, fun i hi => ?_⟩
  · rw [Lib.cell_of_heap hh]
    rw [Nat.zero_add]
    simpa using hx
  · dsimp only at hb
    split at hb
    · have := hb.2; omega
    · have := hb.2; omega
  · dsimp only at hb
    split at hb
    · exact ⟨by have := hb.1; omega, by have := hb.2; simp; omega⟩
    · exact ⟨by have := hb.1; omega, by have := hb.2; simp; omega⟩
  · dsimp only at h1 h2
    simp only [List.length_cons, List.length_nil] at hi hj
    split at h1
    · rw [if_neg (by omega)] at h2
      have := h1.2; have := h2.1; omega
    · rw [if_pos (by omega)] at h2
      have := h1.1; have := h2.2; omega
  · have hi2 : i = 0 ∨ i = 1 := by simp at hi; omega
    rcases hi2 with rfl | rfl
    · exact hT
    · exact hT'
--WALK--
set_option maxHeartbeats 3200000 in
set_option maxRecDepth 100000 in
theorem spec_l03TermO (d : Nat) (hd : d ≤ 100) : DrCO d := by
  induction d with
  | zero =>
    intro p A c code k w rd hl hc hk
    have RD := Lib.hid rd
    have HK := Lib.hid hk
    have hb := belowD_bd code (n := 12) (by decide) k
    have hpl := lt_of_block hk.at'
    have TZ0 := Lib.hid (@termD_zero code k)
    clear rd hk
    go_enter Tryd.func100, Tryd.ntmps100
    go_wp2_with fail
    refine (spec_l01Below 12 p A c code k _ (RD.out.alloc _) hl hc (HK.out.keep (by repeat' (first | exact Below.refl _ _ | exact Nat.le_refl _ | (refine Below.alloc ?_ ?_ _) | (refine Below.setCell ?_ ?_ _) | (refine Below.drew ?_) | (refine below_drewN ?_ _) | assumption | (simp; done) | (simp; omega)))) (by omega)).mono ?_
    rintro e w1 ⟨rfl, k1, kp1⟩
    have K1 := Lib.hid k1
    have P1 : Hid (Keep (fun b => b ≠ p) w w1) := Lib.hid ((Keep.alloc (Keep.refl _ _) _).trans kp1 (fun _ _ h => h))
    have R1 := Lib.hid (rd_apart (RD.out.alloc _) (HK.out.keep (by repeat' (first | exact Below.refl _ _ | exact Nat.le_refl _ | (refine Below.alloc ?_ ?_ _) | (refine Below.setCell ?_ ?_ _) | (refine Below.drew ?_) | (refine below_drewN ?_ _) | assumption | (simp; done) | (simp; omega)))) kp1)
    have X1 : Hid (BoxZ w1 w.heap.size) := Lib.hid (BoxZ.keep ⟨heap_alloc_new _ _⟩ kp1 (by omega))
    have hs1 := kp1.size
    simp only [World.size_alloc] at hs1
    clear k1 kp1
    generalize hx : belowD code 12 k = y at *
    obtain ⟨x, k1⟩ := y
    have HX := Lib.hid hx
    clear hx
    simp only at hb K1
    have TZ := TZ0.out
    clear TZ0
    simp only at TZ
    obtain ⟨h0, h1⟩ := hb
    by_cases h6 : 6 ≤ x
    · rw [if_pos h6] at TZ
      by_cases h3 : x - 6 < 3
      · rw [leafD_num h3] at TZ
        have TZ := Lib.hid TZ
        go_wp2_with fail
        refine (pick_nums _ p (by omega) A c code k1 _ (Rd.new _ 1 8 _ _ rfl) (R1.out.alloc _) hl hc (K1.out.keep (by repeat' (first | exact Below.refl _ _ | exact Nat.le_refl _ | (refine Below.alloc ?_ ?_ _) | (refine Below.setCell ?_ ?_ _) | (refine Below.drew ?_) | (refine below_drewN ?_ _) | assumption | (simp; done) | (simp; omega))))).mono ?_
        rintro e w2 ⟨rfl, k2, kp2⟩
        have K2 := Lib.hid k2
        have P2 : Hid (Keep (fun b => b ≠ p) w w2) := Lib.hid ((P1.out.alloc _).trans kp2 (fun _ _ h => h))
        have hs2 := kp2.size
        simp only [World.size_alloc] at hs2
        have X2 := (X1.out.below (Below.alloc (Below.refl w1.heap.size w1) (Nat.le_refl _) _)).keep kp2 (by omega)
        obtain ⟨⟨c0, c1, c2, c3⟩, f0, f1, f2, f3⟩ := X2.cells
        clear k2 kp2
        go_wp2_with fail
        refine bodyPost_ret (v := .agg #[.int .i64 1, .int .i64 (pickI tmNums (belowD code 8 k1).1), .string ⟨#[]⟩, .slice none 0 0]) (by simp [results, Tryd.results100, go_sem, c0, c1, c2, c3]) rfl ?_
        rw [TZ.out]
        refine ⟨_, _, _, _, _, _, rfl, TmO.leafD (by unfold i64in; omega) (pickI_in i64in tmNums_in (by have := belowD_bd code (n := 8) (by decide) k1; show (belowD code 8 k1).1.toNat < 8; omega)) (Nat.zero_le _), put_cur (x := vt _ _ _ _ _ _) K2.out (by omega) , put_keep (x := vt _ _ _ _ _ _) P2.out (Nat.le_refl _)⟩
      · rw [leafD_var h3] at TZ
        have TZ := Lib.hid TZ
        go_wp2_with fail
        refine (pick_names _ p (by omega) A c code k1 _ (Rd.new _ 1 5 _ _ rfl) (R1.out.alloc _) hl hc (K1.out.keep (by repeat' (first | exact Below.refl _ _ | exact Nat.le_refl _ | (refine Below.alloc ?_ ?_ _) | (refine Below.setCell ?_ ?_ _) | (refine Below.drew ?_) | (refine below_drewN ?_ _) | assumption | (simp; done) | (simp; omega))))).mono ?_
        rintro e w2 ⟨rfl, k2, kp2⟩
        have K2 := Lib.hid k2
        have P2 : Hid (Keep (fun b => b ≠ p) w w2) := Lib.hid ((P1.out.alloc _).trans kp2 (fun _ _ h => h))
        have hs2 := kp2.size
        simp only [World.size_alloc] at hs2
        have X2 := (X1.out.below (Below.alloc (Below.refl w1.heap.size w1) (Nat.le_refl _) _)).keep kp2 (by omega)
        obtain ⟨⟨c0, c1, c2, c3⟩, f0, f1, f2, f3⟩ := X2.cells
        clear k2 kp2
        go_wp2_with fail
        refine bodyPost_ret (v := .agg #[.int .i64 2, .int .i64 0, .string (pickS tmNames (belowD code 5 k1).1), .slice none 0 0]) (by simp [results, Tryd.results100, go_sem, c0, c1, c2, c3]) rfl ?_
        rw [TZ.out]
        refine ⟨_, _, _, _, _, _, rfl, TmO.leafD (by unfold i64in; omega) (by unfold i64in; omega) (pickS_in (fun s => s.size ≤ maxLen) tmNames_in (by have := belowD_bd code (n := 5) (by decide) k1; show (belowD code 5 k1).1.toNat < 5; omega)), put_cur (x := vt _ _ _ _ _ _) K2.out (by omega) , put_keep (x := vt _ _ _ _ _ _) P2.out (Nat.le_refl _)⟩
    · rw [if_neg h6] at TZ
      by_cases h3 : x < 3
      · rw [leafD_num h3] at TZ
        have TZ := Lib.hid TZ
        go_wp2_with fail
        refine (pick_nums _ p (by omega) A c code k1 _ (Rd.new _ 1 8 _ _ rfl) (R1.out.alloc _) hl hc (K1.out.keep (by repeat' (first | exact Below.refl _ _ | exact Nat.le_refl _ | (refine Below.alloc ?_ ?_ _) | (refine Below.setCell ?_ ?_ _) | (refine Below.drew ?_) | (refine below_drewN ?_ _) | assumption | (simp; done) | (simp; omega))))).mono ?_
        rintro e w2 ⟨rfl, k2, kp2⟩
        have K2 := Lib.hid k2
        have P2 : Hid (Keep (fun b => b ≠ p) w w2) := Lib.hid ((P1.out.alloc _).trans kp2 (fun _ _ h => h))
        have hs2 := kp2.size
        simp only [World.size_alloc] at hs2
        have X2 := (X1.out.below (Below.alloc (Below.refl w1.heap.size w1) (Nat.le_refl _) _)).keep kp2 (by omega)
        obtain ⟨⟨c0, c1, c2, c3⟩, f0, f1, f2, f3⟩ := X2.cells
        clear k2 kp2
        go_wp2_with fail
        refine bodyPost_ret (v := .agg #[.int .i64 1, .int .i64 (pickI tmNums (belowD code 8 k1).1), .string ⟨#[]⟩, .slice none 0 0]) (by simp [results, Tryd.results100, go_sem, c0, c1, c2, c3]) rfl ?_
        rw [TZ.out]
        refine ⟨_, _, _, _, _, _, rfl, TmO.leafD (by unfold i64in; omega) (pickI_in i64in tmNums_in (by have := belowD_bd code (n := 8) (by decide) k1; show (belowD code 8 k1).1.toNat < 8; omega)) (Nat.zero_le _), put_cur (x := vt _ _ _ _ _ _) K2.out (by omega) , put_keep (x := vt _ _ _ _ _ _) P2.out (Nat.le_refl _)⟩
      · rw [leafD_var h3] at TZ
        have TZ := Lib.hid TZ
        go_wp2_with fail
        refine (pick_names _ p (by omega) A c code k1 _ (Rd.new _ 1 5 _ _ rfl) (R1.out.alloc _) hl hc (K1.out.keep (by repeat' (first | exact Below.refl _ _ | exact Nat.le_refl _ | (refine Below.alloc ?_ ?_ _) | (refine Below.setCell ?_ ?_ _) | (refine Below.drew ?_) | (refine below_drewN ?_ _) | assumption | (simp; done) | (simp; omega))))).mono ?_
        rintro e w2 ⟨rfl, k2, kp2⟩
        have K2 := Lib.hid k2
        have P2 : Hid (Keep (fun b => b ≠ p) w w2) := Lib.hid ((P1.out.alloc _).trans kp2 (fun _ _ h => h))
        have hs2 := kp2.size
        simp only [World.size_alloc] at hs2
        have X2 := (X1.out.below (Below.alloc (Below.refl w1.heap.size w1) (Nat.le_refl _) _)).keep kp2 (by omega)
        obtain ⟨⟨c0, c1, c2, c3⟩, f0, f1, f2, f3⟩ := X2.cells
        clear k2 kp2
        go_wp2_with fail
        refine bodyPost_ret (v := .agg #[.int .i64 2, .int .i64 0, .string (pickS tmNames (belowD code 5 k1).1), .slice none 0 0]) (by simp [results, Tryd.results100, go_sem, c0, c1, c2, c3]) rfl ?_
        rw [TZ.out]
        refine ⟨_, _, _, _, _, _, rfl, TmO.leafD (by unfold i64in; omega) (by unfold i64in; omega) (pickS_in (fun s => s.size ≤ maxLen) tmNames_in (by have := belowD_bd code (n := 5) (by decide) k1; show (belowD code 5 k1).1.toNat < 5; omega)), put_cur (x := vt _ _ _ _ _ _) K2.out (by omega) , put_keep (x := vt _ _ _ _ _ _) P2.out (Nat.le_refl _)⟩
  | succ d ih =>
    intro p A c code k w rd hl hc hk
    have RD := Lib.hid rd
    have HK := Lib.hid hk
    have hb := belowD_bd code (n := 12) (by decide) k
    have hpl := lt_of_block hk.at'
    have TL0 := Lib.hid (@termD_leaf code d k)
    have TN0 := Lib.hid (@termD_not code d k)
    have TT0 := Lib.hid (@termD_two code d k)
    have hdz : ((d + 1 : Nat) : Int) - 1 = (d : Int) := by omega
    have hdp : ¬ (((d + 1 : Nat) : Int) ≤ 0) := by omega
    clear rd hk
    go_enter Tryd.func100, Tryd.ntmps100
    go_wp2_with fail
    refine (spec_l01Below 12 p A c code k _ (RD.out.alloc _) hl hc (HK.out.keep (by repeat' (first | exact Below.refl _ _ | exact Nat.le_refl _ | (refine Below.alloc ?_ ?_ _) | (refine Below.setCell ?_ ?_ _) | (refine Below.drew ?_) | (refine below_drewN ?_ _) | assumption | (simp; done) | (simp; omega)))) (by omega)).mono ?_
    rintro e w1 ⟨rfl, k1, kp1⟩
    have K1 := Lib.hid k1
    have P1 : Hid (Keep (fun b => b ≠ p) w w1) := Lib.hid ((Keep.alloc (Keep.refl _ _) _).trans kp1 (fun _ _ h => h))
    have R1 := Lib.hid (rd_apart (RD.out.alloc _) (HK.out.keep (by repeat' (first | exact Below.refl _ _ | exact Nat.le_refl _ | (refine Below.alloc ?_ ?_ _) | (refine Below.setCell ?_ ?_ _) | (refine Below.drew ?_) | (refine below_drewN ?_ _) | assumption | (simp; done) | (simp; omega)))) kp1)
    have X1 : Hid (BoxZ w1 w.heap.size) := Lib.hid (BoxZ.keep ⟨heap_alloc_new _ _⟩ kp1 (by omega))
    have hs1 := kp1.size
    simp only [World.size_alloc] at hs1
    clear k1 kp1
    generalize hx : belowD code 12 k = y at *
    obtain ⟨x, k1⟩ := y
    have HX := Lib.hid hx
    clear hx
    simp only at hb K1
    have TL := TL0.out
    have TN := TN0.out
    have TT := TT0.out
    simp only at TL TN TT
    clear TL0 TN0 TT0
    obtain ⟨h0, h1⟩ := hb
    by_cases h6 : x < 6
    · have TZ := TL h6
      clear TL TN TT ih hdz
      by_cases h3 : x < 3
      · rw [leafD_num h3] at TZ
        have TZ := Lib.hid TZ
        go_wp2_with fail
        refine (pick_nums _ p (by omega) A c code k1 _ (Rd.new _ 1 8 _ _ rfl) (R1.out.alloc _) hl hc (K1.out.keep (by repeat' (first | exact Below.refl _ _ | exact Nat.le_refl _ | (refine Below.alloc ?_ ?_ _) | (refine Below.setCell ?_ ?_ _) | (refine Below.drew ?_) | (refine below_drewN ?_ _) | assumption | (simp; done) | (simp; omega))))).mono ?_
        rintro e w2 ⟨rfl, k2, kp2⟩
        have K2 := Lib.hid k2
        have P2 : Hid (Keep (fun b => b ≠ p) w w2) := Lib.hid ((P1.out.alloc _).trans kp2 (fun _ _ h => h))
        have hs2 := kp2.size
        simp only [World.size_alloc] at hs2
        have X2 := (X1.out.below (Below.alloc (Below.refl w1.heap.size w1) (Nat.le_refl _) _)).keep kp2 (by omega)
        obtain ⟨⟨c0, c1, c2, c3⟩, f0, f1, f2, f3⟩ := X2.cells
        clear k2 kp2
        go_wp2_with fail
        refine bodyPost_ret (v := .agg #[.int .i64 1, .int .i64 (pickI tmNums (belowD code 8 k1).1), .string ⟨#[]⟩, .slice none 0 0]) (by simp [results, Tryd.results100, go_sem, c0, c1, c2, c3]) rfl ?_
        rw [TZ.out]
        refine ⟨_, _, _, _, _, _, rfl, TmO.leafD (by unfold i64in; omega) (pickI_in i64in tmNums_in (by have := belowD_bd code (n := 8) (by decide) k1; show (belowD code 8 k1).1.toNat < 8; omega)) (Nat.zero_le _), put_cur (x := vt _ _ _ _ _ _) K2.out (by omega) , put_keep (x := vt _ _ _ _ _ _) P2.out (Nat.le_refl _)⟩
      · rw [leafD_var h3] at TZ
        have TZ := Lib.hid TZ
        go_wp2_with fail
        refine (pick_names _ p (by omega) A c code k1 _ (Rd.new _ 1 5 _ _ rfl) (R1.out.alloc _) hl hc (K1.out.keep (by repeat' (first | exact Below.refl _ _ | exact Nat.le_refl _ | (refine Below.alloc ?_ ?_ _) | (refine Below.setCell ?_ ?_ _) | (refine Below.drew ?_) | (refine below_drewN ?_ _) | assumption | (simp; done) | (simp; omega))))).mono ?_
        rintro e w2 ⟨rfl, k2, kp2⟩
        have K2 := Lib.hid k2
        have P2 : Hid (Keep (fun b => b ≠ p) w w2) := Lib.hid ((P1.out.alloc _).trans kp2 (fun _ _ h => h))
        have hs2 := kp2.size
        simp only [World.size_alloc] at hs2
        have X2 := (X1.out.below (Below.alloc (Below.refl w1.heap.size w1) (Nat.le_refl _) _)).keep kp2 (by omega)
        obtain ⟨⟨c0, c1, c2, c3⟩, f0, f1, f2, f3⟩ := X2.cells
        clear k2 kp2
        go_wp2_with fail
        refine bodyPost_ret (v := .agg #[.int .i64 2, .int .i64 0, .string (pickS tmNames (belowD code 5 k1).1), .slice none 0 0]) (by simp [results, Tryd.results100, go_sem, c0, c1, c2, c3]) rfl ?_
        rw [TZ.out]
        refine ⟨_, _, _, _, _, _, rfl, TmO.leafD (by unfold i64in; omega) (by unfold i64in; omega) (pickS_in (fun s => s.size ≤ maxLen) tmNames_in (by have := belowD_bd code (n := 5) (by decide) k1; show (belowD code 5 k1).1.toNat < 5; omega)), put_cur (x := vt _ _ _ _ _ _) K2.out (by omega) , put_keep (x := vt _ _ _ _ _ _) P2.out (Nat.le_refl _)⟩
    · by_cases h7 : x = 6
      · have TZ := Lib.hid (TN h7)
        clear TL TN TT
        subst h7
        go_wp2_with fail
        refine (ih (by omega) p A c code k1 _ R1.out hl hc K1.out).mono ?_
        rintro e w2 ⟨a2, n2, s2, A2, m2, c2, rfl, t2, q2, kp2⟩
        have T2 := Lib.hid t2
        have K2 := Lib.hid q2
        have R2 := Lib.hid (rd_apart R1.out K1.out kp2)
        have P2 := Lib.hid (P1.out.trans kp2 (fun _ _ h => h))
        have X2 := Lib.hid (X1.out.keep kp2 (by omega))
        have hs2 := kp2.size
        have B2 := Lib.hid (row_oneO (lo := w.heap.size + 1) T2.out (by omega) (by omega))
        have X3 := X2.out.below (Below.alloc (Below.refl w2.heap.size w2) (Nat.le_refl _) (.cells #[.int .i64 a2, .int .i64 n2, .string s2, .slice A2 m2 c2] 24))
        obtain ⟨⟨c0, c1, c2', c3⟩, f0, f1, f2, f3⟩ := X3.cells
        clear t2 q2 kp2
        go_wp2_with fail
        refine bodyPost_ret (v := .agg #[.int .i64 8, .int .i64 0, .string ⟨#[]⟩, .slice (some ⟨w2.heap.size, 0, none⟩) 1 1]) (by simp [results, Tryd.results100, go_sem, c0, c1, c2', c3]) rfl ?_
        rw [TZ.out]
        refine ⟨_, _, _, _, _, _, rfl, TmO.mk' (k := 8) (n := 0) (s := ByteArray.empty) (c := 1) (kids := [(termD code d k1).1]) (by unfold i64in; omega) (by unfold i64in; omega) (Nat.zero_le _) (by simp) (by simp [maxLen]) ?_, put_cur (x := vt _ _ _ _ _ _) (K2.out.keep (by repeat' (first | exact Below.refl _ _ | exact Nat.le_refl _ | (refine Below.alloc ?_ ?_ _) | (refine Below.setCell ?_ ?_ _) | (refine Below.drew ?_) | (refine below_drewN ?_ _) | assumption | (simp; done) | (simp; omega)))) (by omega), put_keep (x := vt _ _ _ _ _ _) (P2.out.alloc _) (Nat.le_refl _)⟩
        exact (B2.out.put4 (g := w.heap.size) (fun h => by have := h.1; omega) 0 (vt _ _ _ _ _ _)).sub (fun b hb => ⟨by have := hb.1; omega, by have := hb.2; simp only [World.size_setCell]; exact this⟩)
      · have TZ := Lib.hid (TT (by omega))
        have h8 : ¬ x = 6 := h7
        have hxk := belowD_bd code (n := 6) (by decide) k1
        have hki := Lib.hid (pickI_in i64in tmKinds_in (x := (belowD code 6 k1).1) (by show _ < 6; omega))
        clear TL TN TT
        go_wp2_with fail
        refine (pick_kinds _ p (by omega) A c code k1 _ (Rd.new _ 1 6 _ _ rfl) (R1.out.alloc _) hl hc (K1.out.keep (by repeat' (first | exact Below.refl _ _ | exact Nat.le_refl _ | (refine Below.alloc ?_ ?_ _) | (refine Below.setCell ?_ ?_ _) | (refine Below.drew ?_) | (refine below_drewN ?_ _) | assumption | (simp; done) | (simp; omega))))).mono ?_
        rintro e w2 ⟨rfl, k2, kp2⟩
        have K2 := Lib.hid k2
        have P2 : Hid (Keep (fun b => b ≠ p) w w2) := Lib.hid ((P1.out.alloc _).trans kp2 (fun _ _ h => h))
        have R2 := Lib.hid (rd_apart (R1.out.alloc _) (K1.out.keep (by repeat' (first | exact Below.refl _ _ | exact Nat.le_refl _ | (refine Below.alloc ?_ ?_ _) | (refine Below.setCell ?_ ?_ _) | (refine Below.drew ?_) | (refine below_drewN ?_ _) | assumption | (simp; done) | (simp; omega)))) kp2)
        have hs2 := kp2.size
        simp only [World.size_alloc] at hs2
        have X2 := Lib.hid ((X1.out.below (Below.alloc (Below.refl w1.heap.size w1) (Nat.le_refl _) _)).keep kp2 (by omega))
        clear k2 kp2 hxk
        generalize hx6 : belowD code 6 k1 = y6 at *
        obtain ⟨x6, k6⟩ := y6
        clear hx6
        simp only at K2 hki
        have TZ := Lib.hid TZ.out
        go_wp2_with fail
        refine (ih (by omega) p A c code k6 _ R2.out hl hc K2.out).mono ?_
        rintro e w3 ⟨a3, n3, s3, A3, m3, c3, rfl, t3, q3, kp3⟩
        have T3 := Lib.hid t3
        have K3 := Lib.hid q3
        have R3 := Lib.hid (rd_apart R2.out K2.out kp3)
        have P3 := Lib.hid (P2.out.trans kp3 (fun _ _ h => h))
        have X3 := Lib.hid (X2.out.keep kp3 (by omega))
        have hs3 := kp3.size
        go_wp2_with fail
        refine (ih (by omega) p A c code _ _ R3.out hl hc K3.out).mono ?_
        rintro e w4 ⟨a4, n4, s4, A4, m4, c4, rfl, t4, q4, kp4⟩
        have T4 := Lib.hid t4
        have K4 := Lib.hid q4
        have R4 := Lib.hid (rd_apart R3.out K3.out kp4)
        have P4 := Lib.hid (P3.out.trans kp4 (fun _ _ h => h))
        have X4 := Lib.hid (X3.out.keep kp4 (by omega))
        have hs4 := kp4.size
        have U3 := T3.out.keep (w' := w4) (fun b hb => kp4.block b hb.2 (by have := hb.1; omega))
        have B2 := Lib.hid (row_twoO (lo := w.heap.size + 1) U3 T4.out (by omega) (by omega) (by omega) (by omega))
        have X5 := X4.out.below (Below.alloc (Below.refl w4.heap.size w4) (Nat.le_refl _) (.cells #[.int .i64 a3, .int .i64 n3, .string s3, .slice A3 m3 c3, .int .i64 a4, .int .i64 n4, .string s4, .slice A4 m4 c4] 24))
        obtain ⟨⟨d0, d1, d2, d3⟩, f0, f1, f2, f3⟩ := X5.cells
        clear t3 q3 kp3 t4 q4 kp4 U3
        go_wp2_with fail
        refine bodyPost_ret (v := .agg #[.int .i64 (pickI tmKinds x6), .int .i64 0, .string ⟨#[]⟩, .slice (some ⟨w4.heap.size, 0, none⟩) 2 2]) (by simp [results, Tryd.results100, go_sem, d0, d1, d2, d3]) rfl ?_
        rw [TZ.out]
        refine ⟨_, _, _, _, _, _, rfl, TmO.mk' (k := pickI tmKinds x6) (n := 0) (s := ByteArray.empty) (c := 2) (kids := [(termD code d k6).1, (termD code d (termD code d k6).2).1]) hki.out (by unfold i64in; omega) (Nat.zero_le _) (by simp) (by simp [maxLen]) ?_, put_cur (x := vt _ _ _ _ _ _) (K4.out.keep (by repeat' (first | exact Below.refl _ _ | exact Nat.le_refl _ | (refine Below.alloc ?_ ?_ _) | (refine Below.setCell ?_ ?_ _) | (refine Below.drew ?_) | (refine below_drewN ?_ _) | assumption | (simp; done) | (simp; omega)))) (by omega), put_keep (x := vt _ _ _ _ _ _) (P4.out.alloc _) (Nat.le_refl _)⟩
        exact (B2.out.put4 (g := w.heap.size) (fun h => by have := h.1; omega) 0 (vt _ _ _ _ _ _)).sub (fun b hb => ⟨by have := hb.1; omega, by have := hb.2; simp only [World.size_setCell]; exact this⟩)

/-- all but v's own row is as it was; v' lies in v's row or in a new block -/
structure Grew (v v' : Value) (w w' : World) : Prop where
  keep : Keep (fun i => v.ownBlock ≠ some i) w w'
  lies : v'.ownBlock = v.ownBlock ∨ ∃ g, v'.ownBlock = some g ∧ w.heap.size ≤ g
theorem Grew.refl (v : Value) (w : World) : Grew v v w w := ⟨Keep.refl _ _, .inl rfl⟩
theorem Grew.of_below {v : Value} {w w' : World} (h : Below w.heap.size w w') : Grew v v w w' := ⟨Keep.of_below h, .inl rfl⟩
theorem Grew.trans {u v x : Value} {a b c : World} (h : Grew u v a b) (k : Grew v x b c) : Grew u x a c := by
  refine ⟨h.keep.trans k.keep (fun i hi hu e => ?_), ?_⟩
  · rcases h.lies with h1 | ⟨g, h1, h2⟩
    · exact hu (h1.symm.trans e)
    · rw [h1] at e; injection e with e; omega
  · rcases k.lies with k1 | ⟨g, k1, k2⟩
    · rw [k1]; exact h.lies
    · exact .inr ⟨g, k1, Nat.le_trans h.keep.size k2⟩
theorem Keep.mono {S S' : Nat → Prop} {w w' : World} (h : Keep S w w') (hs : ∀ i, i < w.heap.size → S' i → S i) : Keep S' w w' := ⟨h.os, h.tape, h.output, h.size, fun k hk hS => h.block k hk (hs k hk hS)⟩
theorem Own.neT {w0 w : World} {e : TypeId} {sz n b : Nat} {v : Value} {xs : List Value} (h : Own w0 w e sz v n xs) (hb : Sane e w b) : v.ownBlock ≠ some b := by
  intro e
  rcases h.1.2 with ⟨rfl, _⟩ | ⟨g, cap, cur, rfl, _, hg, _⟩
  · cases e
  · injection e with e
    subst e
    exact hb cur hg
theorem Grew.keepT {w0 w w' : World} {e : TypeId} {sz n : Nat} {v v' : Value} {xs : List Value} (h : Grew v v' w w') (own : Own w0 w e sz v n xs) : KeepT e w w' := h.keep.mono fun _ _ hS => own.neT hS
section
variable {P : Program} {w0 w : World}
theorem run_appG (t ty e : TypeId) (sz bt : Nat) (T : ElemT P t e sz bt) (v : Value) (n : Nat) (xs : List Value) (own : Own w0 w e sz v n xs)
    (A : Option Addr) (m c : Nat) (news : List Value) (rd : Rd w sz A m news) (h1 : ∀ u ∈ news, u.oneCell' = true) (h63 : n + m ≤ maxLen) (hb : (n + m) * bt ≤ 140737488355328) :
    ∃ v' w', (Builtin.append_ #[t, t] ty #[v, .slice A m c]).run P w = .ok v' w' ∧ Own w0 w' e sz v' (n + m) (xs ++ news) ∧ Grew v v' w w' := by
  obtain ⟨i, z, hi, hz, hs, hbt, hzs⟩ := T.info
  rcases A with _ | ad
  · have hm : m = 0 := by
      rcases Nat.eq_zero_or_pos m with h | h
      · exact h
      · obtain ⟨b, off, e, _⟩ := rd.2 h; cases e
    subst hm
    have hn : news = [] := List.eq_nil_of_length_eq_zero (by simpa using rd.1)
    subst hn
    refine ⟨v, w, ?_, by simpa using own, Grew.refl _ _⟩
    rcases own.1.2 with ⟨rfl, rfl⟩ | ⟨g, cap, cur, rfl, _, _, hnc, _⟩
    · simp [Builtin.append_, run_underlying T.under, sizeOf, typeInfo, hi, Builtin.lenOf, Builtin.firstCells]
    · simp [Builtin.append_, run_underlying T.under, sizeOf, typeInfo, hi, Builtin.lenOf, Builtin.firstCells, hnc, storeCells]
  · have hcells : ∀ j u, news[j]? = some u → w.cell? (ad.add j) = some u := by
      intro j u hu
      rcases Nat.eq_zero_or_pos m with h0 | h0
      · subst h0
        have hn : news = [] := List.eq_nil_of_length_eq_zero (by simpa using rd.1)
        subst hn
        simp at hu
      · obtain ⟨b, off, h, hc⟩ := rd.2 h0
        injection h with h
        subst h
        rw [Addr.add_lit]
        exact hc j u hu
    obtain ⟨v', w', hr, h2, h3, _, h5⟩ := run_append_own_at (P := P) w w0.heap.size t ty e i z sz bt T.under hi hz hs hbt hzs T.pos v n xs own.1 ad m c news rd.1 hcells h1 h63 hb own.2.size
    refine ⟨v', w', hr, own.grown h2 h3, ⟨h3.os, h3.tape, h3.output, h3.size, fun k hk hne => h3.block k hk (fun e => hne e.symm)⟩, ?_⟩
    rcases h5 with h5 | h5
    · exact .inl h5
    · exact .inr ⟨_, h5, Nat.le_refl _⟩
theorem wp_appG {o : Oper} {a : Act} {K : Act → World → Prop} {Q : Exit → Act → World → Prop} (s x : Operand) (t : TypeId)
    (ho : o.op = .call { callee := .builtin .append, args := #[s, x], argTypes := #[t, t] }) {e : TypeId} {sz bt : Nat} (T : ElemT P t e sz bt) {v : Value} {n : Nat} {xs : List Value} (hs : a.eval s = v) (own : Own w0 w e sz v n xs)
    (A : Option Addr) (m c : Nat) (news : List Value) (hx : a.eval x = .slice A m c) (rd : Rd w sz A m news) (h1 : ∀ u ∈ news, u.oneCell' = true) (h63 : n + m ≤ maxLen) (hb : (n + m) * bt ≤ 140737488355328)
    (h : ∀ v' w', Own w0 w' e sz v' (n + m) (xs ++ news) → Grew v v' w w' → K (a.put o.dst v') w') : o.wp P a w K Q := by
  obtain ⟨v', w', hr, h2, h3⟩ := run_appG (P := P) t o.type e sz bt T v n xs own A m c news rd h1 h63 hb
  unfold Oper.wp execOp
  simp only [ho, resolve, invoke, builtin, Sem.run_bind, Sem.run_pure, Result.andThen_ok, List.map_toArray, List.map_cons, List.map_nil, hs, hx, hr]
  exact h v' w' h2 h3
/-- append onto a row of the call's own, in a plain region -/
theorem wpList_appG {ops : Array Oper} {rest : List Oper} {o : Oper} {a : Act} {Q : Exit → Act → World → Prop} (hgd : o.guard = none) (s x : Operand) (t : TypeId)
    (ho : o.op = .call { callee := .builtin .append, args := #[s, x], argTypes := #[t, t] }) {e : TypeId} {sz bt : Nat} (T : ElemT P t e sz bt) {v : Value} {n : Nat} {xs : List Value} (hs : a.eval s = v) (own : Own w0 w e sz v n xs)
    (A : Option Addr) (m c : Nat) (news : List Value) (hx : a.eval x = .slice A m c) (rd : Rd w sz A m news) (h1 : ∀ u ∈ news, u.oneCell' = true) (h63 : n + m ≤ maxLen) (hb : (n + m) * bt ≤ 140737488355328)
    (h : ∀ v' w', Own w0 w' e sz v' (n + m) (xs ++ news) → Grew v v' w w' → wpList P ops Q rest (a.put o.dst v') w') : wpList P ops Q (o :: rest) a w :=
  wpList_plain hgd fun _ hK => wp_appG s x t ho T hs own A m c news hx rd h1 h63 hb fun v' w' h2 h3 => hK _ _ (h v' w' h2 h3)
/-- the same where what is appended has just been laid in a new block -/
theorem wpList_appG_new {ops : Array Oper} {rest : List Oper} {o : Oper} {a : Act} {Q : Exit → Act → World → Prop} (g : Nat) (hg : g = w.heap.size) (hgd : o.guard = none) (s x : Operand) (t : TypeId)
    (ho : o.op = .call { callee := .builtin .append, args := #[s, x], argTypes := #[t, t] }) {e : TypeId} {sz bt : Nat} (T : ElemT P t e sz bt) {v : Value} {n : Nat} {xs : List Value} (own : Own w0 w e sz v n xs)
    (cs : Array Value) (m : Nat) (hs : a.eval s = v) (hx : a.eval x = .slice (some ⟨g, 0, none⟩) m m) (hl : cs.size = m * sz) (h1 : ∀ u ∈ cs.toList, u.oneCell' = true) (h63 : n + m ≤ maxLen) (hb : (n + m) * bt ≤ 140737488355328)
    (h : ∀ v' w', Own w0 w' e sz v' (n + m) (xs ++ cs.toList) → Grew v v' w w' → wpList P ops Q rest (a.put o.dst v') w') : wpList P ops Q (o :: rest) a (w.alloc (.cells cs e)) := by
  subst hg
  exact wpList_appG hgd s x t ho T hs (own.alloc _) _ m m cs.toList hx (Rd.new w sz m cs e hl) h1 h63 hb fun v' w' h2 h3 =>
    h v' w' h2 ((Grew.of_below (Below.alloc (Below.refl _ _) (Nat.le_refl _) _)).trans h3)
end
/-- the world's first blocks -/
def cutX (base : Nat) (w : World) : World := { w with heap := w.heap.extract 0 base }
theorem cutX_size {base : Nat} {w : World} (h : base ≤ w.heap.size) : (cutX base w).heap.size = base := by simp [cutX]; omega
theorem cutX_below {base : Nat} {w : World} (h : base ≤ w.heap.size) : Below (cutX base w).heap.size (cutX base w) w := by
  refine ⟨rfl, rfl, rfl, ?_, fun k hk => ?_⟩
  · rw [cutX_size h]; exact h
  · rw [cutX_size h] at hk
    simp [cutX, Array.getElem?_extract]; omega
/-- v owns the cells xs in blocks from base on -/
def OwnX (base : Nat) (w : World) (e : TypeId) (sz : Nat) (v : Value) (n : Nat) (xs : List Value) : Prop := w.ownsRow base e sz v n xs ∧ base ≤ w.heap.size
theorem OwnX.own {base : Nat} {w : World} {e : TypeId} {sz n : Nat} {v : Value} {xs : List Value} (h : OwnX base w e sz v n xs) : Own (cutX base w) w e sz v n xs := ⟨by rw [cutX_size h.2]; exact h.1, cutX_below h.2⟩
theorem OwnX.of {base : Nat} {w w' : World} {e : TypeId} {sz n : Nat} {v : Value} {xs : List Value} (hb : base ≤ w.heap.size) (h : Own (cutX base w) w' e sz v n xs) : OwnX base w' e sz v n xs := by
  have h1 := h.1
  have h2 := h.2.size
  rw [cutX_size hb] at h1 h2
  exact ⟨h1, h2⟩
theorem OwnX.of_own {w0 w : World} {e : TypeId} {sz n : Nat} {v : Value} {xs : List Value} (h : Own w0 w e sz v n xs) : OwnX w0.heap.size w e sz v n xs := ⟨h.1, h.2.size⟩
theorem OwnX.keep {base : Nat} {w w' : World} {e : TypeId} {sz n : Nat} {v : Value} {xs : List Value} {S : Nat → Prop} (h : OwnX base w e sz v n xs) (hk : Keep S w w') (hv : ∀ b, v.ownBlock = some b → S b) : OwnX base w' e sz v n xs := by
  refine ⟨⟨h.1.1, ?_⟩, Nat.le_trans h.2 hk.size⟩
  rcases h.1.2 with h' | ⟨g, cap, cur, rfl, hg, hh, r⟩
  · exact .inl h'
  · exact .inr ⟨g, cap, cur, rfl, hg, (hk.block g (lt_of_block hh) (hv g rfl)).trans hh, r⟩
theorem OwnX.lt {base : Nat} {w : World} {e : TypeId} {sz n : Nat} {v : Value} {xs : List Value} (h : OwnX base w e sz v n xs) : ∀ b, v.ownBlock = some b → base ≤ b ∧ b < w.heap.size := fun b hb => h.1.lt b hb
theorem OwnX.neT {base : Nat} {w : World} {e : TypeId} {sz n b : Nat} {v : Value} {xs : List Value} (h : OwnX base w e sz v n xs) (hb : Sane e w b) : v.ownBlock ≠ some b := Own.neT h.own hb
/-- a row's block is of its kind -/
theorem OwnX.sane {base : Nat} {w : World} {e t : TypeId} {sz n : Nat} {v : Value} {xs : List Value} (h : OwnX base w e sz v n xs) (ht : e ≠ t) : ∀ b, v.ownBlock = some b → Sane t w b := by
  intro b hb
  rcases h.1.2 with ⟨rfl, _⟩ | ⟨g, cap, cur, rfl, _, hg, _⟩
  · cases hb
  · injection hb with hb
    subst hb
    exact sane_of hg ht
theorem OwnX.alloc {base : Nat} {w : World} {e : TypeId} {sz n : Nat} {v : Value} {xs : List Value} (h : OwnX base w e sz v n xs) (o : Obj) : OwnX base (w.alloc o) e sz v n xs := ⟨h.1.alloc o, by have := h.2; simp; omega⟩

/-- v is a row of statements in blocks from base on, each one's memory apart -/
def GrwO (base : Nat) (w : World) (v : Value) (l : List St) : Prop :=
  ∃ (xs : List V8) (G : Nat → Nat → Prop), xs.length = l.length ∧ OwnX base w 104 8 v l.length (xs.flatMap V8.cells) ∧ (∀ i b, i < l.length → G i b → base ≤ b ∧ b < w.heap.size ∧ v.ownBlock ≠ some b) ∧ (∀ i j b, i < l.length → j < l.length → i ≠ j → G i b → G j b → False) ∧ ∀ i (h : i < l.length) (h' : i < xs.length), StO w (G i) xs[i] l[i]
theorem GrwO.slice {base : Nat} {w : World} {v : Value} {l : List St} (h : GrwO base w v l) : ∃ A c, v = .slice A l.length c ∧ l.length ≤ c ∧ c ≤ maxLen := by
  obtain ⟨xs, G, hl, ow, _⟩ := h
  obtain ⟨A, c, rfl, hc⟩ := own_slice ow.1
  exact ⟨A, c, rfl, hc, own_cap' ow.own⟩
theorem GrwO.nil {base : Nat} {w : World} (hb : base ≤ w.heap.size) : GrwO base w (.slice none 0 0) [] :=
  ⟨[], fun _ _ => False, rfl, ⟨World.ownsRow_nil _ _ _ _, hb⟩, fun i b h => absurd h (by simp), fun i j b h => absurd h (by simp), fun i h => absurd h (by simp)⟩
theorem GrwO.empty {base : Nat} {w : World} (hb : base ≤ w.heap.size) : GrwO base (w.alloc (.cells #[] 104)) (.slice (some ⟨w.heap.size, 0, none⟩) 0 0) [] :=
  ⟨[], fun _ _ => False, rfl, ⟨World.ownsRow_lit w #[] 0 hb (by simp [maxLen]) rfl, by simp; omega⟩, fun i b h => absurd h (by simp), fun i j b h => absurd h (by simp), fun i h => absurd h (by simp)⟩
theorem GrwO.keep {base : Nat} {w w' : World} {v : Value} {l : List St} {S : Nat → Prop} (h : GrwO base w v l) (hk : Keep S w w') (hS : ∀ b, base ≤ b → b < w.heap.size → S b) : GrwO base w' v l := by
  obtain ⟨xs, G, hl, ow, hG, hd, hx⟩ := h
  refine ⟨xs, G, hl, ow.keep hk (fun b hb => hS b (ow.lt b hb).1 (ow.lt b hb).2), fun i b hi hb => ?_, hd, fun i hi hi' => (hx i hi hi').keep fun b hb => ?_⟩
  · have := hG i b hi hb
    exact ⟨this.1, Nat.lt_of_lt_of_le this.2.1 hk.size, this.2.2⟩
  · have := hG i b hi hb
    exact hk.block b this.2.1 (hS b this.1 this.2.1)
theorem GrwO.below {base : Nat} {w w' : World} {v : Value} {l : List St} (h : GrwO base w v l) (hb : Below w.heap.size w w') : GrwO base w' v l := h.keep (Keep.of_below (S := fun _ => True) hb) (fun _ _ _ => trivial)
/-- one more, whose memory was made since -/
theorem grw_app {base : Nat} {w0 w1 w2 : World} {v v' : Value} {l : List St} {xs : List V8} {G : Nat → Nat → Prop} {x : V8} {g : St} {S : Nat → Prop}
    (hl : xs.length = l.length) (ow : OwnX base w0 104 8 v l.length (xs.flatMap V8.cells)) (hG : ∀ i b, i < l.length → G i b → base ≤ b ∧ b < w0.heap.size ∧ v.ownBlock ≠ some b) (hd : ∀ i j b, i < l.length → j < l.length → i ≠ j → G i b → G j b → False) (hx : ∀ i (h : i < l.length) (h' : i < xs.length), StO w0 (G i) xs[i] l[i])
    (hk : Keep S w0 w1) (hS : ∀ b, base ≤ b → b < w0.heap.size → S b) (ht : StO w1 (Made w0 w1) x g) (own3 : Own (cutX base w1) w2 104 8 v' (l.length + 1) (xs.flatMap V8.cells ++ x.cells)) (gr : Grew v v' w1 w2) : GrwO base w2 v' (l ++ [g]) := by
  have h01 := hk.size
  have h12 := gr.keep.size
  have hb0 := ow.2
  have hlt := ow.lt
  have key : ∀ b, b < w1.heap.size → v.ownBlock ≠ some b → v'.ownBlock ≠ some b := by
    intro b hb hv e
    rcases gr.lies with h1 | ⟨q, h1, h2⟩
    · exact hv (h1 ▸ e)
    · rw [h1] at e; injection e with e; omega
  have hn : ∀ b, w0.heap.size ≤ b → v.ownBlock ≠ some b := fun b hb e => by have := hlt b e; omega
  have hlen : (l ++ [g]).length = l.length + 1 := by simp
  refine ⟨xs ++ [x], fun i b => if i < l.length then G i b else Made w0 w1 b, by simp [hl], ?_, fun i b hi hb => ?_, fun i j b hi hj hne h1 h2 => ?_, fun i hi hi' => ?_⟩
  · rw [hlen, List.flatMap_append]
    have e1 : [x].flatMap V8.cells = x.cells := by simp
    rw [e1]
    exact OwnX.of (by omega) own3
  · by_cases e : i < l.length
    · simp only [e, if_true] at hb
      have := hG i b e hb
      exact ⟨this.1, by omega, key b (by omega) this.2.2⟩
    · simp only [e, if_false] at hb
      have h1 := hb.1
      have h2 := hb.2
      exact ⟨by omega, by omega, key b h2 (hn b h1)⟩
  · rw [hlen] at hi hj
    by_cases e : i < l.length
    · by_cases e' : j < l.length
      · simp only [e, e', if_true] at h1 h2; exact hd i j b e e' hne h1 h2
      · simp only [e, e', if_true, if_false] at h1 h2; have := hG i b e h1; have := h2.1; omega
    · by_cases e' : j < l.length
      · simp only [e, e', if_true, if_false] at h1 h2; have := hG j b e' h2; have := h1.1; omega
      · omega
  · rw [hlen] at hi
    by_cases e : i < l.length
    · have e2 : i < xs.length := by omega
      simp only [e, if_true]
      rw [List.getElem_append_left e2, List.getElem_append_left e]
      have hb := fun b hb => hG i b e hb
      exact ((hx i e e2).keep fun b q => hk.block b (hb b q).2.1 (hS b (hb b q).1 (hb b q).2.1)).keep fun b q => gr.keep.block b (by have := (hb b q).2.1; omega) (hb b q).2.2
    · have e2 : i = l.length := by omega
      subst e2
      simp only [Nat.lt_irrefl, if_false]
      have e3 : (xs ++ [x])[l.length] = x := by simp [← hl]
      have e4 : (l ++ [g])[l.length] = g := by simp
      rw [e3, e4]
      exact ht.keep fun b q => gr.keep.block b q.2 (hn b q.1)
theorem GrwO.row {w0 w : World} {A : Option Addr} {c : Nat} {l : List St} (h : GrwO w0.heap.size w (.slice A l.length c) l) : StRowO w (Made w0 w) A l := by
  obtain ⟨xs, G, hl, ow, hG, hd, hx⟩ := h
  refine stRowO_of (xs := xs) (G := G) hl ⟨ow.own.rd, fun hn => ?_, fun i b hi hb => ⟨(hG i b hi hb).1, (hG i b hi hb).2.1⟩, hd⟩ hx
  rcases ow.1.2 with ⟨h, _⟩ | ⟨g, cap, cur, h, hb, hg, _⟩
  · injection h with _ h2; omega
  · injection h with h1 h2
    subst h1
    exact ⟨g, 0, cur, _, rfl, ⟨hb, lt_of_block hg⟩, hg, fun i hi hb => (hG i g hi hb).2.2 rfl⟩
end Go.Proofs.YtefcdpkficojgaaDoor
