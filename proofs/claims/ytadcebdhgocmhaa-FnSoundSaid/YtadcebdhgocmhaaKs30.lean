/- Several texts in one: TermDrO. -/
import Derived.Test.YtadcebdhgocmhaaKs9
import Derived.Test.YtadcebdhgocmhaaKs16
namespace Go.Proofs.Ytadcebdhgocmhaa
open Go.RowKit
set_option linter.unusedVariables false


theorem TmO.leafD {w : World} {F : Nat → Prop} {k m : Int} {s : ByteArray} (hk : i64in k) (hm : i64in m) (hs : s.size ≤ maxLen) : TmO w F [.int .i64 k, .int .i64 m, .string s, .slice none 0 0] (.mk k m s []) :=
  TmO.mk' (kids := []) hk hm hs (Nat.le_refl _) (by simp [maxLen]) ⟨[], fun _ _ => False, RowO.nil _ _ _ _ _, fun i h => absurd h (by simp)⟩
theorem TmRowO.put4 {w : World} {F : Nat → Prop} {A : Option Addr} {ts : List Tm} (h : TmRowO w F A ts) {g : Nat} (hg : ¬ F g) (o : Nat) (x : V4) : TmRowO (put4 w g o x) F A ts :=
  (((h.set (p := ⟨g, o, none⟩) hg _).set (p := ⟨g, o + 1, none⟩) hg _).set (p := ⟨g, o + 2, none⟩) hg _).set (p := ⟨g, o + 3, none⟩) hg _
def RetDO (w : World) (p : Nat) (A : Option Addr) (c : Nat) (code : List UInt8) (r : Tm × Cur) (e : Ending) (w' : World) : Prop :=
  ∃ k n s A' m c', e = .returned (.agg #[.int .i64 k, .int .i64 n, .string s, .slice A' m c']) ∧ TmO w' (Made w w') [.int .i64 k, .int .i64 n, .string s, .slice A' m c'] r.1 ∧ CurAt w' p A c code r.2 ∧ Keep (fun b => b ≠ p) w w'
abbrev DrCO (d : Nat) : Prop := ∀ (p : Nat) (A : Option Addr) (c : Nat) (code : List UInt8) (k : Cur) (w : World), Rd w 1 A code.length (bv code) → code.length ≤ 1048576 → c ≤ maxLen → CurAt w p A c code k →
  Calls Try.prog 108 #[.pointer (some ⟨p, 0, none⟩), .int .i64 (d : Int)] w (RetDO w p A c code (termD code d k))
/-- one term, two terms, laid in a new row -/
theorem row_oneO {lo : Nat} {u w : World} {k n : Int} {s : ByteArray} {A : Option Addr} {m c : Nat} {t : Tm} (h : TmO w (Made u w) [.int .i64 k, .int .i64 n, .string s, .slice A m c] t) (hlo : lo ≤ u.heap.size) (hlw : lo ≤ w.heap.size) :
    TmRowO (w.alloc (.cells #[.int .i64 k, .int .i64 n, .string s, .slice A m c] 34)) (fun b => lo ≤ b ∧ b < (w.alloc (.cells #[.int .i64 k, .int .i64 n, .string s, .slice A m c] 34)).heap.size) (some ⟨w.heap.size, 0, none⟩) [t] := by
  have hT := h.keep (w' := w.alloc (.cells #[.int .i64 k, .int .i64 n, .string s, .slice A m c] 34)) (fun b hb => heap_alloc_lt hb.2)
  have hh := heap_alloc_new w (.cells #[.int .i64 k, .int .i64 n, .string s, .slice A m c] 34)
  refine ⟨[.int .i64 k, .int .i64 n, .string s, .slice A m c], fun _ => Made u w, ⟨⟨rfl, fun _ => ⟨w.heap.size, 0, rfl, fun j x hx => ?_⟩⟩, fun _ => ⟨w.heap.size, 0, _, _, rfl, ⟨hlw, by simp⟩, hh, fun _ _ hb => by have := hb.2; omega⟩, fun _ b _ hb => ⟨by have := hb.1; omega, by have := hb.2; simp; omega⟩, fun i j b hi hj hne _ _ => by simp at hi hj; omega⟩, fun i hi => ?_⟩
  · rw [Lib.cell_of_heap hh]
    rw [Nat.zero_add]
    simpa using hx
  · have : i = 0 := by simp at hi; omega
    subst this
    exact hT
theorem row_twoO {lo : Nat} {u v w : World} {k n : Int} {s : ByteArray} {A : Option Addr} {m c : Nat} {t : Tm} {k' n' : Int} {s' : ByteArray} {A' : Option Addr} {m' c' : Nat} {t' : Tm} (h : TmO w (Made u v) [.int .i64 k, .int .i64 n, .string s, .slice A m c] t) (h' : TmO w (Made v w) [.int .i64 k', .int .i64 n', .string s', .slice A' m' c'] t') (hlo : lo ≤ u.heap.size) (huv : u.heap.size ≤ v.heap.size) (hvw : v.heap.size ≤ w.heap.size) (hlw : lo ≤ w.heap.size) :
    TmRowO (w.alloc (.cells #[.int .i64 k, .int .i64 n, .string s, .slice A m c, .int .i64 k', .int .i64 n', .string s', .slice A' m' c'] 34)) (fun b => lo ≤ b ∧ b < (w.alloc (.cells #[.int .i64 k, .int .i64 n, .string s, .slice A m c, .int .i64 k', .int .i64 n', .string s', .slice A' m' c'] 34)).heap.size) (some ⟨w.heap.size, 0, none⟩) [t, t'] := by
  have hT := h.keep (w' := w.alloc (.cells #[.int .i64 k, .int .i64 n, .string s, .slice A m c, .int .i64 k', .int .i64 n', .string s', .slice A' m' c'] 34)) (fun b hb => heap_alloc_lt (by have := hb.2; omega))
  have hT' := h'.keep (w' := w.alloc (.cells #[.int .i64 k, .int .i64 n, .string s, .slice A m c, .int .i64 k', .int .i64 n', .string s', .slice A' m' c'] 34)) (fun b hb => heap_alloc_lt hb.2)
  have hh := heap_alloc_new w (.cells #[.int .i64 k, .int .i64 n, .string s, .slice A m c, .int .i64 k', .int .i64 n', .string s', .slice A' m' c'] 34)
  refine ⟨[.int .i64 k, .int .i64 n, .string s, .slice A m c, .int .i64 k', .int .i64 n', .string s', .slice A' m' c'], fun i => if i = 0 then Made u v else Made v w, ⟨⟨rfl, fun _ => ⟨w.heap.size, 0, rfl, fun j x hx => ?_⟩⟩, fun _ => ⟨w.heap.size, 0, _, _, rfl, ⟨hlw, by simp⟩, hh, fun i _ hb => ?_⟩, fun i b _ hb => ?_, fun i j b hi hj hne h1 h2 => ?_⟩, fun i hi => ?_⟩
  · rw [Lib.cell_of_heap hh]
    rw [Nat.zero_add]
    simpa using hx
  · dsimp only at hb
    split at hb
    · have := hb.2; omega
    · have := hb.2; omega
  · dsimp only at hb
    split at hb
    · exact ⟨by have := hb.1; omega, by have := hb.2; simp; omega⟩
    · exact ⟨by have := hb.1; omega, by have := hb.2; simp; omega⟩
  · dsimp only at h1 h2
    simp only [List.length_cons, List.length_nil] at hi hj
    split at h1
    · rw [if_neg (by omega)] at h2
      have := h1.2; have := h2.1; omega
    · rw [if_pos (by omega)] at h2
      have := h1.1; have := h2.2; omega
  · have hi2 : i = 0 ∨ i = 1 := by simp at hi; omega
    rcases hi2 with rfl | rfl
    · exact hT
    · exact hT'
--WALK--
set_option maxHeartbeats 3200000 in
set_option maxRecDepth 100000 in
theorem spec_l03TermO (d : Nat) (hd : d ≤ 100) : DrCO d := by
  induction d with
  | zero =>
    intro p A c code k w rd hl hc hk
    have RD := Lib.hid rd
    have HK := Lib.hid hk
    have hb := belowD_bd code (n := 12) (by decide) k
    have hpl := lt_of_block hk.at'
    have TZ0 := Lib.hid (@termD_zero code k)
    clear rd hk
    go_enter Try.func108, Try.ntmps108
    go_wp2_with fail
    refine (spec_l01Below 12 p A c code k _ (RD.out.alloc _) hl hc (HK.out.keep (by repeat' (first | exact Below.refl _ _ | exact Nat.le_refl _ | (refine Below.alloc ?_ ?_ _) | (refine Below.setCell ?_ ?_ _) | (refine Below.drew ?_) | (refine below_drewN ?_ _) | assumption | (simp; done) | (simp; omega)))) (by omega)).mono ?_
    rintro e w1 ⟨rfl, k1, kp1⟩
    have K1 := Lib.hid k1
    have P1 : Hid (Keep (fun b => b ≠ p) w w1) := Lib.hid ((Keep.alloc (Keep.refl _ _) _).trans kp1 (fun _ _ h => h))
    have R1 := Lib.hid (rd_apart (RD.out.alloc _) (HK.out.keep (by repeat' (first | exact Below.refl _ _ | exact Nat.le_refl _ | (refine Below.alloc ?_ ?_ _) | (refine Below.setCell ?_ ?_ _) | (refine Below.drew ?_) | (refine below_drewN ?_ _) | assumption | (simp; done) | (simp; omega)))) kp1)
    have X1 : Hid (BoxZ w1 w.heap.size) := Lib.hid (BoxZ.keep ⟨heap_alloc_new _ _⟩ kp1 (by omega))
    have hs1 := kp1.size
    simp only [World.size_alloc] at hs1
    clear k1 kp1
    generalize hx : belowD code 12 k = y at *
    obtain ⟨x, k1⟩ := y
    have HX := Lib.hid hx
    clear hx
    simp only at hb K1
    have TZ := TZ0.out
    clear TZ0
    simp only at TZ
    obtain ⟨h0, h1⟩ := hb
    by_cases h6 : 6 ≤ x
    · rw [if_pos h6] at TZ
      by_cases h3 : x - 6 < 3
      · rw [leafD_num h3] at TZ
        have TZ := Lib.hid TZ
        go_wp2_with fail
        refine (pick_nums _ p (by omega) A c code k1 _ (Rd.new _ 1 8 _ _ rfl) (R1.out.alloc _) hl hc (K1.out.keep (by repeat' (first | exact Below.refl _ _ | exact Nat.le_refl _ | (refine Below.alloc ?_ ?_ _) | (refine Below.setCell ?_ ?_ _) | (refine Below.drew ?_) | (refine below_drewN ?_ _) | assumption | (simp; done) | (simp; omega))))).mono ?_
        rintro e w2 ⟨rfl, k2, kp2⟩
        have K2 := Lib.hid k2
        have P2 : Hid (Keep (fun b => b ≠ p) w w2) := Lib.hid ((P1.out.alloc _).trans kp2 (fun _ _ h => h))
        have hs2 := kp2.size
        simp only [World.size_alloc] at hs2
        have X2 := (X1.out.below (Below.alloc (Below.refl w1.heap.size w1) (Nat.le_refl _) _)).keep kp2 (by omega)
        obtain ⟨⟨c0, c1, c2, c3⟩, f0, f1, f2, f3⟩ := X2.cells
        clear k2 kp2
        go_wp2_with fail
        refine bodyPost_ret (v := .agg #[.int .i64 1, .int .i64 (pickI tmNums (belowD code 8 k1).1), .string ⟨#[]⟩, .slice none 0 0]) (by simp [results, Try.results108, go_sem, c0, c1, c2, c3]) rfl ?_
        rw [TZ.out]
        refine ⟨_, _, _, _, _, _, rfl, TmO.leafD (by unfold i64in; omega) (pickI_in i64in tmNums_in (by have := belowD_bd code (n := 8) (by decide) k1; show (belowD code 8 k1).1.toNat < 8; omega)) (Nat.zero_le _), put_cur (x := vt _ _ _ _ _ _) K2.out (by omega) , put_keep (x := vt _ _ _ _ _ _) P2.out (Nat.le_refl _)⟩
      · rw [leafD_var h3] at TZ
        have TZ := Lib.hid TZ
        go_wp2_with fail
        refine (pick_names _ p (by omega) A c code k1 _ (Rd.new _ 1 5 _ _ rfl) (R1.out.alloc _) hl hc (K1.out.keep (by repeat' (first | exact Below.refl _ _ | exact Nat.le_refl _ | (refine Below.alloc ?_ ?_ _) | (refine Below.setCell ?_ ?_ _) | (refine Below.drew ?_) | (refine below_drewN ?_ _) | assumption | (simp; done) | (simp; omega))))).mono ?_
        rintro e w2 ⟨rfl, k2, kp2⟩
        have K2 := Lib.hid k2
        have P2 : Hid (Keep (fun b => b ≠ p) w w2) := Lib.hid ((P1.out.alloc _).trans kp2 (fun _ _ h => h))
        have hs2 := kp2.size
        simp only [World.size_alloc] at hs2
        have X2 := (X1.out.below (Below.alloc (Below.refl w1.heap.size w1) (Nat.le_refl _) _)).keep kp2 (by omega)
        obtain ⟨⟨c0, c1, c2, c3⟩, f0, f1, f2, f3⟩ := X2.cells
        clear k2 kp2
        go_wp2_with fail
        refine bodyPost_ret (v := .agg #[.int .i64 2, .int .i64 0, .string (pickS tmNames (belowD code 5 k1).1), .slice none 0 0]) (by simp [results, Try.results108, go_sem, c0, c1, c2, c3]) rfl ?_
        rw [TZ.out]
        refine ⟨_, _, _, _, _, _, rfl, TmO.leafD (by unfold i64in; omega) (by unfold i64in; omega) (pickS_in (fun s => s.size ≤ maxLen) tmNames_in (by have := belowD_bd code (n := 5) (by decide) k1; show (belowD code 5 k1).1.toNat < 5; omega)), put_cur (x := vt _ _ _ _ _ _) K2.out (by omega) , put_keep (x := vt _ _ _ _ _ _) P2.out (Nat.le_refl _)⟩
    · rw [if_neg h6] at TZ
      by_cases h3 : x < 3
      · rw [leafD_num h3] at TZ
        have TZ := Lib.hid TZ
        go_wp2_with fail
        refine (pick_nums _ p (by omega) A c code k1 _ (Rd.new _ 1 8 _ _ rfl) (R1.out.alloc _) hl hc (K1.out.keep (by repeat' (first | exact Below.refl _ _ | exact Nat.le_refl _ | (refine Below.alloc ?_ ?_ _) | (refine Below.setCell ?_ ?_ _) | (refine Below.drew ?_) | (refine below_drewN ?_ _) | assumption | (simp; done) | (simp; omega))))).mono ?_
        rintro e w2 ⟨rfl, k2, kp2⟩
        have K2 := Lib.hid k2
        have P2 : Hid (Keep (fun b => b ≠ p) w w2) := Lib.hid ((P1.out.alloc _).trans kp2 (fun _ _ h => h))
        have hs2 := kp2.size
        simp only [World.size_alloc] at hs2
        have X2 := (X1.out.below (Below.alloc (Below.refl w1.heap.size w1) (Nat.le_refl _) _)).keep kp2 (by omega)
        obtain ⟨⟨c0, c1, c2, c3⟩, f0, f1, f2, f3⟩ := X2.cells
        clear k2 kp2
        go_wp2_with fail
        refine bodyPost_ret (v := .agg #[.int .i64 1, .int .i64 (pickI tmNums (belowD code 8 k1).1), .string ⟨#[]⟩, .slice none 0 0]) (by simp [results, Try.results108, go_sem, c0, c1, c2, c3]) rfl ?_
        rw [TZ.out]
        refine ⟨_, _, _, _, _, _, rfl, TmO.leafD (by unfold i64in; omega) (pickI_in i64in tmNums_in (by have := belowD_bd code (n := 8) (by decide) k1; show (belowD code 8 k1).1.toNat < 8; omega)) (Nat.zero_le _), put_cur (x := vt _ _ _ _ _ _) K2.out (by omega) , put_keep (x := vt _ _ _ _ _ _) P2.out (Nat.le_refl _)⟩
      · rw [leafD_var h3] at TZ
        have TZ := Lib.hid TZ
        go_wp2_with fail
        refine (pick_names _ p (by omega) A c code k1 _ (Rd.new _ 1 5 _ _ rfl) (R1.out.alloc _) hl hc (K1.out.keep (by repeat' (first | exact Below.refl _ _ | exact Nat.le_refl _ | (refine Below.alloc ?_ ?_ _) | (refine Below.setCell ?_ ?_ _) | (refine Below.drew ?_) | (refine below_drewN ?_ _) | assumption | (simp; done) | (simp; omega))))).mono ?_
        rintro e w2 ⟨rfl, k2, kp2⟩
        have K2 := Lib.hid k2
        have P2 : Hid (Keep (fun b => b ≠ p) w w2) := Lib.hid ((P1.out.alloc _).trans kp2 (fun _ _ h => h))
        have hs2 := kp2.size
        simp only [World.size_alloc] at hs2
        have X2 := (X1.out.below (Below.alloc (Below.refl w1.heap.size w1) (Nat.le_refl _) _)).keep kp2 (by omega)
        obtain ⟨⟨c0, c1, c2, c3⟩, f0, f1, f2, f3⟩ := X2.cells
        clear k2 kp2
        go_wp2_with fail
        refine bodyPost_ret (v := .agg #[.int .i64 2, .int .i64 0, .string (pickS tmNames (belowD code 5 k1).1), .slice none 0 0]) (by simp [results, Try.results108, go_sem, c0, c1, c2, c3]) rfl ?_
        rw [TZ.out]
        refine ⟨_, _, _, _, _, _, rfl, TmO.leafD (by unfold i64in; omega) (by unfold i64in; omega) (pickS_in (fun s => s.size ≤ maxLen) tmNames_in (by have := belowD_bd code (n := 5) (by decide) k1; show (belowD code 5 k1).1.toNat < 5; omega)), put_cur (x := vt _ _ _ _ _ _) K2.out (by omega) , put_keep (x := vt _ _ _ _ _ _) P2.out (Nat.le_refl _)⟩
  | succ d ih =>
    intro p A c code k w rd hl hc hk
    have RD := Lib.hid rd
    have HK := Lib.hid hk
    have hb := belowD_bd code (n := 12) (by decide) k
    have hpl := lt_of_block hk.at'
    have TL0 := Lib.hid (@termD_leaf code d k)
    have TN0 := Lib.hid (@termD_not code d k)
    have TT0 := Lib.hid (@termD_two code d k)
    have hdz : ((d + 1 : Nat) : Int) - 1 = (d : Int) := by omega
    have hdp : ¬ (((d + 1 : Nat) : Int) ≤ 0) := by omega
    clear rd hk
    go_enter Try.func108, Try.ntmps108
    go_wp2_with fail
    refine (spec_l01Below 12 p A c code k _ (RD.out.alloc _) hl hc (HK.out.keep (by repeat' (first | exact Below.refl _ _ | exact Nat.le_refl _ | (refine Below.alloc ?_ ?_ _) | (refine Below.setCell ?_ ?_ _) | (refine Below.drew ?_) | (refine below_drewN ?_ _) | assumption | (simp; done) | (simp; omega)))) (by omega)).mono ?_
    rintro e w1 ⟨rfl, k1, kp1⟩
    have K1 := Lib.hid k1
    have P1 : Hid (Keep (fun b => b ≠ p) w w1) := Lib.hid ((Keep.alloc (Keep.refl _ _) _).trans kp1 (fun _ _ h => h))
    have R1 := Lib.hid (rd_apart (RD.out.alloc _) (HK.out.keep (by repeat' (first | exact Below.refl _ _ | exact Nat.le_refl _ | (refine Below.alloc ?_ ?_ _) | (refine Below.setCell ?_ ?_ _) | (refine Below.drew ?_) | (refine below_drewN ?_ _) | assumption | (simp; done) | (simp; omega)))) kp1)
    have X1 : Hid (BoxZ w1 w.heap.size) := Lib.hid (BoxZ.keep ⟨heap_alloc_new _ _⟩ kp1 (by omega))
    have hs1 := kp1.size
    simp only [World.size_alloc] at hs1
    clear k1 kp1
    generalize hx : belowD code 12 k = y at *
    obtain ⟨x, k1⟩ := y
    have HX := Lib.hid hx
    clear hx
    simp only at hb K1
    have TL := TL0.out
    have TN := TN0.out
    have TT := TT0.out
    simp only at TL TN TT
    clear TL0 TN0 TT0
    obtain ⟨h0, h1⟩ := hb
    by_cases h6 : x < 6
    · have TZ := TL h6
      clear TL TN TT ih hdz
      by_cases h3 : x < 3
      · rw [leafD_num h3] at TZ
        have TZ := Lib.hid TZ
        go_wp2_with fail
        refine (pick_nums _ p (by omega) A c code k1 _ (Rd.new _ 1 8 _ _ rfl) (R1.out.alloc _) hl hc (K1.out.keep (by repeat' (first | exact Below.refl _ _ | exact Nat.le_refl _ | (refine Below.alloc ?_ ?_ _) | (refine Below.setCell ?_ ?_ _) | (refine Below.drew ?_) | (refine below_drewN ?_ _) | assumption | (simp; done) | (simp; omega))))).mono ?_
        rintro e w2 ⟨rfl, k2, kp2⟩
        have K2 := Lib.hid k2
        have P2 : Hid (Keep (fun b => b ≠ p) w w2) := Lib.hid ((P1.out.alloc _).trans kp2 (fun _ _ h => h))
        have hs2 := kp2.size
        simp only [World.size_alloc] at hs2
        have X2 := (X1.out.below (Below.alloc (Below.refl w1.heap.size w1) (Nat.le_refl _) _)).keep kp2 (by omega)
        obtain ⟨⟨c0, c1, c2, c3⟩, f0, f1, f2, f3⟩ := X2.cells
        clear k2 kp2
        go_wp2_with fail
        refine bodyPost_ret (v := .agg #[.int .i64 1, .int .i64 (pickI tmNums (belowD code 8 k1).1), .string ⟨#[]⟩, .slice none 0 0]) (by simp [results, Try.results108, go_sem, c0, c1, c2, c3]) rfl ?_
        rw [TZ.out]
        refine ⟨_, _, _, _, _, _, rfl, TmO.leafD (by unfold i64in; omega) (pickI_in i64in tmNums_in (by have := belowD_bd code (n := 8) (by decide) k1; show (belowD code 8 k1).1.toNat < 8; omega)) (Nat.zero_le _), put_cur (x := vt _ _ _ _ _ _) K2.out (by omega) , put_keep (x := vt _ _ _ _ _ _) P2.out (Nat.le_refl _)⟩
      · rw [leafD_var h3] at TZ
        have TZ := Lib.hid TZ
        go_wp2_with fail
        refine (pick_names _ p (by omega) A c code k1 _ (Rd.new _ 1 5 _ _ rfl) (R1.out.alloc _) hl hc (K1.out.keep (by repeat' (first | exact Below.refl _ _ | exact Nat.le_refl _ | (refine Below.alloc ?_ ?_ _) | (refine Below.setCell ?_ ?_ _) | (refine Below.drew ?_) | (refine below_drewN ?_ _) | assumption | (simp; done) | (simp; omega))))).mono ?_
        rintro e w2 ⟨rfl, k2, kp2⟩
        have K2 := Lib.hid k2
        have P2 : Hid (Keep (fun b => b ≠ p) w w2) := Lib.hid ((P1.out.alloc _).trans kp2 (fun _ _ h => h))
        have hs2 := kp2.size
        simp only [World.size_alloc] at hs2
        have X2 := (X1.out.below (Below.alloc (Below.refl w1.heap.size w1) (Nat.le_refl _) _)).keep kp2 (by omega)
        obtain ⟨⟨c0, c1, c2, c3⟩, f0, f1, f2, f3⟩ := X2.cells
        clear k2 kp2
        go_wp2_with fail
        refine bodyPost_ret (v := .agg #[.int .i64 2, .int .i64 0, .string (pickS tmNames (belowD code 5 k1).1), .slice none 0 0]) (by simp [results, Try.results108, go_sem, c0, c1, c2, c3]) rfl ?_
        rw [TZ.out]
        refine ⟨_, _, _, _, _, _, rfl, TmO.leafD (by unfold i64in; omega) (by unfold i64in; omega) (pickS_in (fun s => s.size ≤ maxLen) tmNames_in (by have := belowD_bd code (n := 5) (by decide) k1; show (belowD code 5 k1).1.toNat < 5; omega)), put_cur (x := vt _ _ _ _ _ _) K2.out (by omega) , put_keep (x := vt _ _ _ _ _ _) P2.out (Nat.le_refl _)⟩
    · by_cases h7 : x = 6
      · have TZ := Lib.hid (TN h7)
        clear TL TN TT
        subst h7
        go_wp2_with fail
        refine (ih (by omega) p A c code k1 _ R1.out hl hc K1.out).mono ?_
        rintro e w2 ⟨a2, n2, s2, A2, m2, c2, rfl, t2, q2, kp2⟩
        have T2 := Lib.hid t2
        have K2 := Lib.hid q2
        have R2 := Lib.hid (rd_apart R1.out K1.out kp2)
        have P2 := Lib.hid (P1.out.trans kp2 (fun _ _ h => h))
        have X2 := Lib.hid (X1.out.keep kp2 (by omega))
        have hs2 := kp2.size
        have B2 := Lib.hid (row_oneO (lo := w.heap.size + 1) T2.out (by omega) (by omega))
        have X3 := X2.out.below (Below.alloc (Below.refl w2.heap.size w2) (Nat.le_refl _) (.cells #[.int .i64 a2, .int .i64 n2, .string s2, .slice A2 m2 c2] 34))
        obtain ⟨⟨c0, c1, c2', c3⟩, f0, f1, f2, f3⟩ := X3.cells
        clear t2 q2 kp2
        go_wp2_with fail
        refine bodyPost_ret (v := .agg #[.int .i64 8, .int .i64 0, .string ⟨#[]⟩, .slice (some ⟨w2.heap.size, 0, none⟩) 1 1]) (by simp [results, Try.results108, go_sem, c0, c1, c2', c3]) rfl ?_
        rw [TZ.out]
        refine ⟨_, _, _, _, _, _, rfl, TmO.mk' (k := 8) (n := 0) (s := ByteArray.empty) (c := 1) (kids := [(termD code d k1).1]) (by unfold i64in; omega) (by unfold i64in; omega) (Nat.zero_le _) (by simp) (by simp [maxLen]) ?_, put_cur (x := vt _ _ _ _ _ _) (K2.out.keep (by repeat' (first | exact Below.refl _ _ | exact Nat.le_refl _ | (refine Below.alloc ?_ ?_ _) | (refine Below.setCell ?_ ?_ _) | (refine Below.drew ?_) | (refine below_drewN ?_ _) | assumption | (simp; done) | (simp; omega)))) (by omega), put_keep (x := vt _ _ _ _ _ _) (P2.out.alloc _) (Nat.le_refl _)⟩
        exact (B2.out.put4 (g := w.heap.size) (fun h => by have := h.1; omega) 0 (vt _ _ _ _ _ _)).sub (fun b hb => ⟨by have := hb.1; omega, by have := hb.2; simp only [World.size_setCell]; exact this⟩)
      · have TZ := Lib.hid (TT (by omega))
        have h8 : ¬ x = 6 := h7
        have hxk := belowD_bd code (n := 6) (by decide) k1
        have hki := Lib.hid (pickI_in i64in tmKinds_in (x := (belowD code 6 k1).1) (by show _ < 6; omega))
        clear TL TN TT
        go_wp2_with fail
        refine (pick_kinds _ p (by omega) A c code k1 _ (Rd.new _ 1 6 _ _ rfl) (R1.out.alloc _) hl hc (K1.out.keep (by repeat' (first | exact Below.refl _ _ | exact Nat.le_refl _ | (refine Below.alloc ?_ ?_ _) | (refine Below.setCell ?_ ?_ _) | (refine Below.drew ?_) | (refine below_drewN ?_ _) | assumption | (simp; done) | (simp; omega))))).mono ?_
        rintro e w2 ⟨rfl, k2, kp2⟩
        have K2 := Lib.hid k2
        have P2 : Hid (Keep (fun b => b ≠ p) w w2) := Lib.hid ((P1.out.alloc _).trans kp2 (fun _ _ h => h))
        have R2 := Lib.hid (rd_apart (R1.out.alloc _) (K1.out.keep (by repeat' (first | exact Below.refl _ _ | exact Nat.le_refl _ | (refine Below.alloc ?_ ?_ _) | (refine Below.setCell ?_ ?_ _) | (refine Below.drew ?_) | (refine below_drewN ?_ _) | assumption | (simp; done) | (simp; omega)))) kp2)
        have hs2 := kp2.size
        simp only [World.size_alloc] at hs2
        have X2 := Lib.hid ((X1.out.below (Below.alloc (Below.refl w1.heap.size w1) (Nat.le_refl _) _)).keep kp2 (by omega))
        clear k2 kp2 hxk
        generalize hx6 : belowD code 6 k1 = y6 at *
        obtain ⟨x6, k6⟩ := y6
        clear hx6
        simp only at K2 hki
        have TZ := Lib.hid TZ.out
        go_wp2_with fail
        refine (ih (by omega) p A c code k6 _ R2.out hl hc K2.out).mono ?_
        rintro e w3 ⟨a3, n3, s3, A3, m3, c3, rfl, t3, q3, kp3⟩
        have T3 := Lib.hid t3
        have K3 := Lib.hid q3
        have R3 := Lib.hid (rd_apart R2.out K2.out kp3)
        have P3 := Lib.hid (P2.out.trans kp3 (fun _ _ h => h))
        have X3 := Lib.hid (X2.out.keep kp3 (by omega))
        have hs3 := kp3.size
        go_wp2_with fail
        refine (ih (by omega) p A c code _ _ R3.out hl hc K3.out).mono ?_
        rintro e w4 ⟨a4, n4, s4, A4, m4, c4, rfl, t4, q4, kp4⟩
        have T4 := Lib.hid t4
        have K4 := Lib.hid q4
        have R4 := Lib.hid (rd_apart R3.out K3.out kp4)
        have P4 := Lib.hid (P3.out.trans kp4 (fun _ _ h => h))
        have X4 := Lib.hid (X3.out.keep kp4 (by omega))
        have hs4 := kp4.size
        have U3 := T3.out.keep (w' := w4) (fun b hb => kp4.block b hb.2 (by have := hb.1; omega))
        have B2 := Lib.hid (row_twoO (lo := w.heap.size + 1) U3 T4.out (by omega) (by omega) (by omega) (by omega))
        have X5 := X4.out.below (Below.alloc (Below.refl w4.heap.size w4) (Nat.le_refl _) (.cells #[.int .i64 a3, .int .i64 n3, .string s3, .slice A3 m3 c3, .int .i64 a4, .int .i64 n4, .string s4, .slice A4 m4 c4] 34))
        obtain ⟨⟨d0, d1, d2, d3⟩, f0, f1, f2, f3⟩ := X5.cells
        clear t3 q3 kp3 t4 q4 kp4 U3
        go_wp2_with fail
        refine bodyPost_ret (v := .agg #[.int .i64 (pickI tmKinds x6), .int .i64 0, .string ⟨#[]⟩, .slice (some ⟨w4.heap.size, 0, none⟩) 2 2]) (by simp [results, Try.results108, go_sem, d0, d1, d2, d3]) rfl ?_
        rw [TZ.out]
        refine ⟨_, _, _, _, _, _, rfl, TmO.mk' (k := pickI tmKinds x6) (n := 0) (s := ByteArray.empty) (c := 2) (kids := [(termD code d k6).1, (termD code d (termD code d k6).2).1]) hki.out (by unfold i64in; omega) (Nat.zero_le _) (by simp) (by simp [maxLen]) ?_, put_cur (x := vt _ _ _ _ _ _) (K4.out.keep (by repeat' (first | exact Below.refl _ _ | exact Nat.le_refl _ | (refine Below.alloc ?_ ?_ _) | (refine Below.setCell ?_ ?_ _) | (refine Below.drew ?_) | (refine below_drewN ?_ _) | assumption | (simp; done) | (simp; omega)))) (by omega), put_keep (x := vt _ _ _ _ _ _) (P4.out.alloc _) (Nat.le_refl _)⟩
        exact (B2.out.put4 (g := w.heap.size) (fun h => by have := h.1; omega) 0 (vt _ _ _ _ _ _)).sub (fun b hb => ⟨by have := hb.1; omega, by have := hb.2; simp only [World.size_setCell]; exact this⟩)
end Go.Proofs.Ytadcebdhgocmhaa
