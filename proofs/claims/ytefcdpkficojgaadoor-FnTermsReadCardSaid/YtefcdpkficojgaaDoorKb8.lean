/- Several texts in one: TermDraw. -/
import Derived.Test.YtefcdpkficojgaaDoorKb5
import Derived.Test.YtefcdpkficojgaaDoorKb6
import Derived.Test.YtefcdpkficojgaaDoorKb7
namespace Go.Proofs.YtefcdpkficojgaaDoor
open Go.RowKit
set_option linter.unusedVariables false


def tmNums : List Int := [0, 1, 2, 3, 7, 999, 1000, 1000000000]
def tmKinds : List Int := [3, 4, 5, 6, 7, 9]
def tmNames : List ByteArray := [⟨#[120]⟩, ⟨#[121]⟩, ⟨#[122]⟩, ⟨#[120]⟩, ⟨#[117]⟩]
def leafD (code : List UInt8) (x : Int) (k : Cur) : Tm × Cur :=
  if x < 3 then (.mk 1 (pickI tmNums (belowD code 8 k).1) ByteArray.empty [], (belowD code 8 k).2)
  else (.mk 2 0 (pickS tmNames (belowD code 5 k).1) [], (belowD code 5 k).2)
def termD (code : List UInt8) : Nat → Cur → Tm × Cur
  | 0, k => leafD code (if 6 ≤ (belowD code 12 k).1 then (belowD code 12 k).1 - 6 else (belowD code 12 k).1) (belowD code 12 k).2
  | d + 1, k =>
    if (belowD code 12 k).1 < 6 then leafD code (belowD code 12 k).1 (belowD code 12 k).2
    else if (belowD code 12 k).1 = 6 then (.mk 8 0 ByteArray.empty [(termD code d (belowD code 12 k).2).1], (termD code d (belowD code 12 k).2).2)
    else (.mk (pickI tmKinds (belowD code 6 (belowD code 12 k).2).1) 0 ByteArray.empty [(termD code d (belowD code 6 (belowD code 12 k).2).2).1, (termD code d (termD code d (belowD code 6 (belowD code 12 k).2).2).2).1], (termD code d (termD code d (belowD code 6 (belowD code 12 k).2).2).2).2)
theorem leafD_num {code : List UInt8} {x : Int} {k : Cur} (h : x < 3) : leafD code x k = (.mk 1 (pickI tmNums (belowD code 8 k).1) ByteArray.empty [], (belowD code 8 k).2) := by unfold leafD; rw [if_pos h]
theorem leafD_var {code : List UInt8} {x : Int} {k : Cur} (h : ¬ x < 3) : leafD code x k = (.mk 2 0 (pickS tmNames (belowD code 5 k).1) [], (belowD code 5 k).2) := by unfold leafD; rw [if_neg h]
theorem termD_zero {code : List UInt8} {k : Cur} : termD code 0 k = leafD code (if 6 ≤ (belowD code 12 k).1 then (belowD code 12 k).1 - 6 else (belowD code 12 k).1) (belowD code 12 k).2 := rfl
theorem termD_leaf {code : List UInt8} {d : Nat} {k : Cur} (h : (belowD code 12 k).1 < 6) : termD code (d + 1) k = leafD code (belowD code 12 k).1 (belowD code 12 k).2 := by rw [termD, if_pos h]
theorem termD_not {code : List UInt8} {d : Nat} {k : Cur} (h : (belowD code 12 k).1 = 6) : termD code (d + 1) k = (.mk 8 0 ByteArray.empty [(termD code d (belowD code 12 k).2).1], (termD code d (belowD code 12 k).2).2) := by rw [termD, if_neg (by omega), if_pos h]
theorem termD_two {code : List UInt8} {d : Nat} {k : Cur} (h : 6 < (belowD code 12 k).1) : termD code (d + 1) k =
    (.mk (pickI tmKinds (belowD code 6 (belowD code 12 k).2).1) 0 ByteArray.empty [(termD code d (belowD code 6 (belowD code 12 k).2).2).1, (termD code d (termD code d (belowD code 6 (belowD code 12 k).2).2).2).1], (termD code d (termD code d (belowD code 6 (belowD code 12 k).2).2).2).2) := by
  rw [termD, if_neg (by omega), if_neg (by omega)]
theorem pickI_in (P : Int → Prop) {zs : List Int} {x : Int} (h : ∀ z ∈ zs, P z) (hx : x.toNat < zs.length) : P (pickI zs x) := h _ (pickI_mem hx)
theorem pickS_in (P : ByteArray → Prop) {ss : List ByteArray} {x : Int} (h : ∀ z ∈ ss, P z) (hx : x.toNat < ss.length) : P (pickS ss x) := h _ (pickS_mem hx)
/-- what a drawn term comes back as -/
def RetD (w : World) (p : Nat) (A : Option Addr) (c : Nat) (code : List UInt8) (r : Tm × Cur) (e : Ending) (w' : World) : Prop :=
  ∃ k n s A' m c', e = .returned (.agg #[.int .i64 k, .int .i64 n, .string s, .slice A' m c']) ∧ TmIs (Fr w.heap.size w') w' [.int .i64 k, .int .i64 n, .string s, .slice A' m c'] r.1 ∧ CurAt w' p A c code r.2 ∧ Keep (fun b => b ≠ p) w w'
theorem TmIs.leaf {F : Nat → Prop} {w : World} {k n : Int} {s : ByteArray} (hk : i64in k) (hn : i64in n) (hs : s.size ≤ maxLen) : TmIs F w [.int .i64 k, .int .i64 n, .string s, .slice none 0 0] (.mk k n s []) :=
  TmIs.mk' (kids := []) hk hn hs (by simp) (by simp [maxLen]) ⟨[], Rd.nil, fun _ _ e _ => (nomatch e), fun i h => absurd h (by simp)⟩
/-- the world behind the result's four cells -/
theorem put_keep {p g : Nat} {w w' : World} (h : Keep (fun b => b ≠ p) w w') (hg : w.heap.size ≤ g) (x : V4) : Keep (fun b => b ≠ p) w (put4 w' g 0 x) :=
  ((((h.fresh.setNew (a := ⟨g, 0, none⟩) hg _).setNew (a := ⟨g, 0 + 1, none⟩) hg _).setNew (a := ⟨g, 0 + 2, none⟩) hg _).setNew (a := ⟨g, 0 + 3, none⟩) hg _).old (Nat.le_refl _)
theorem put_cur {w : World} {p g : Nat} {A : Option Addr} {c : Nat} {code : List UInt8} {k : Cur} (h : CurAt w p A c code k) (hg : g ≠ p) (x : V4) : CurAt (put4 w g 0 x) p A c code k :=
  (((h.setNew (a := ⟨g, 0, none⟩) hg _).setNew (a := ⟨g, 0 + 1, none⟩) hg _).setNew (a := ⟨g, 0 + 2, none⟩) hg _).setNew (a := ⟨g, 0 + 3, none⟩) hg _
theorem TmIs.keepD {lo p : Nat} {w w' : World} {cs : List Value} {t : Tm} (h : TmIs (Fr lo w) w cs t) (hk : Keep (fun b => b ≠ p) w w') (hp : p < lo) : TmIs (Fr lo w') w' cs t :=
  h.keep (fun q hq hF => hk.cell hq (fun e => by have := hF.1; omega)) (fun b hb ⟨h1, cur, e, h2⟩ => ⟨h1, cur, e, (hk.block b hb (fun e => by omega)).trans h2⟩)
abbrev DrC (d : Nat) : Prop := ∀ (p : Nat) (A : Option Addr) (c : Nat) (code : List UInt8) (k : Cur) (w : World), Rd w 1 A code.length (bv code) → code.length ≤ 1048576 → c ≤ maxLen → CurAt w p A c code k →
  Calls Tryd.prog 100 #[.pointer (some ⟨p, 0, none⟩), .int .i64 (d : Int)] w (RetD w p A c code (termD code d k))
/-- a variable of a term that holds the zero yet, and may be written -/
structure BoxZ (w : World) (g : Nat) : Prop where
  at' : w.heap[g]? = some (.cells #[.int .i64 0, .int .i64 0, .string ⟨#[]⟩, .slice none 0 0] 24 (0, 0))
theorem BoxZ.keep {w w' : World} {g p : Nat} (h : BoxZ w g) (hk : Keep (fun b => b ≠ p) w w') (hp : g ≠ p) : BoxZ w' g := ⟨(hk.block g (lt_of_block h.at') hp).trans h.at'⟩
theorem BoxZ.below {w w' : World} {g : Nat} (h : BoxZ w g) (hb : Below w.heap.size w w') : BoxZ w' g := ⟨(hb.block g (lt_of_block h.at')).trans h.at'⟩
theorem BoxZ.cells {w : World} {g : Nat} (h : BoxZ w g) : (w.cell? ⟨g, 0, none⟩ = some (.int .i64 0) ∧ w.cell? ⟨g, 1, none⟩ = some (.int .i64 0) ∧ w.cell? ⟨g, 2, none⟩ = some (.string ⟨#[]⟩) ∧ w.cell? ⟨g, 3, none⟩ = some (.slice none 0 0)) ∧
    w.frozen? ⟨g, 0, none⟩ = false ∧ w.frozen? ⟨g, 1, none⟩ = false ∧ w.frozen? ⟨g, 2, none⟩ = false ∧ w.frozen? ⟨g, 3, none⟩ = false := by
  have hh := h.at'
  refine ⟨⟨?_, ?_, ?_, ?_⟩, ?_, ?_, ?_, ?_⟩ <;> simp [World.cell?, World.frozen?, hh]
theorem tmNums_in : ∀ z ∈ tmNums, i64in z := by unfold i64in; decide
theorem tmNames_in : ∀ s ∈ tmNames, s.size ≤ maxLen := by unfold maxLen; decide
theorem pick_nums (b p : Nat) (hbp : b ≠ p) (A : Option Addr) (c : Nat) (code : List UInt8) (k : Cur) (w : World) (rz : Rd w 1 (some ⟨b, 0, none⟩) 8 (tmNums.map (Value.int .i64))) (rd : Rd w 1 A code.length (bv code)) (hl : code.length ≤ 1048576) (hc : c ≤ maxLen) (hk : CurAt w p A c code k) :
    Calls Tryd.prog 166 #[.pointer (some ⟨p, 0, none⟩), .slice (some ⟨b, 0, none⟩) 8 8] w fun e w' => e = .returned (.int .i64 (pickI tmNums (belowD code 8 k).1)) ∧ CurAt w' p A c code (belowD code 8 k).2 ∧ Keep (fun b => b ≠ p) w w' :=
  spec_l01PickInt tmNums (by decide) (by decide) b p hbp A c code k w rz rd hl hc hk
theorem pick_kinds (b p : Nat) (hbp : b ≠ p) (A : Option Addr) (c : Nat) (code : List UInt8) (k : Cur) (w : World) (rz : Rd w 1 (some ⟨b, 0, none⟩) 6 (tmKinds.map (Value.int .i64))) (rd : Rd w 1 A code.length (bv code)) (hl : code.length ≤ 1048576) (hc : c ≤ maxLen) (hk : CurAt w p A c code k) :
    Calls Tryd.prog 166 #[.pointer (some ⟨p, 0, none⟩), .slice (some ⟨b, 0, none⟩) 6 6] w fun e w' => e = .returned (.int .i64 (pickI tmKinds (belowD code 6 k).1)) ∧ CurAt w' p A c code (belowD code 6 k).2 ∧ Keep (fun b => b ≠ p) w w' :=
  spec_l01PickInt tmKinds (by decide) (by decide) b p hbp A c code k w rz rd hl hc hk
theorem pick_names (b p : Nat) (hbp : b ≠ p) (A : Option Addr) (c : Nat) (code : List UInt8) (k : Cur) (w : World) (rz : Rd w 1 (some ⟨b, 0, none⟩) 5 (tmNames.map Value.string)) (rd : Rd w 1 A code.length (bv code)) (hl : code.length ≤ 1048576) (hc : c ≤ maxLen) (hk : CurAt w p A c code k) :
    Calls Tryd.prog 167 #[.pointer (some ⟨p, 0, none⟩), .slice (some ⟨b, 0, none⟩) 5 5] w fun e w' => e = .returned (.string (pickS tmNames (belowD code 5 k).1)) ∧ CurAt w' p A c code (belowD code 5 k).2 ∧ Keep (fun b => b ≠ p) w w' :=
  spec_l01Pick tmNames (by decide) (by decide) b p hbp A c code k w rz rd hl hc hk
/-- one term, two terms, laid in a new row -/
theorem row_one {lo : Nat} {w : World} {k n : Int} {s : ByteArray} {A : Option Addr} {m c : Nat} {t : Tm} (h : TmIs (Fr lo w) w [.int .i64 k, .int .i64 n, .string s, .slice A m c] t) (hlo : lo ≤ w.heap.size) :
    TmRow (Fr lo (w.alloc (.cells #[.int .i64 k, .int .i64 n, .string s, .slice A m c] 24))) (w.alloc (.cells #[.int .i64 k, .int .i64 n, .string s, .slice A m c] 24)) (some ⟨w.heap.size, 0, none⟩) [t] := by
  refine ⟨_, Rd.new w 4 1 #[.int .i64 k, .int .i64 n, .string s, .slice A m c] 24 rfl, fun b off e _ => ?_, fun i hi => ?_⟩
  · injection e with e
    injection e with e1 _
    subst e1
    exact ⟨hlo, _, _, heap_alloc_new _ _⟩
  · have h0 : i = 0 := by simp at hi; omega
    subst h0
    exact h.belowF (Below.alloc (Below.refl _ _) (Nat.le_refl _) _)
theorem row_two {lo : Nat} {w : World} {k n : Int} {s : ByteArray} {A : Option Addr} {m c : Nat} {t : Tm} {k' n' : Int} {s' : ByteArray} {A' : Option Addr} {m' c' : Nat} {t' : Tm} (h : TmIs (Fr lo w) w [.int .i64 k, .int .i64 n, .string s, .slice A m c] t) (h' : TmIs (Fr lo w) w [.int .i64 k', .int .i64 n', .string s', .slice A' m' c'] t') (hlo : lo ≤ w.heap.size) :
    TmRow (Fr lo (w.alloc (.cells #[.int .i64 k, .int .i64 n, .string s, .slice A m c, .int .i64 k', .int .i64 n', .string s', .slice A' m' c'] 24))) (w.alloc (.cells #[.int .i64 k, .int .i64 n, .string s, .slice A m c, .int .i64 k', .int .i64 n', .string s', .slice A' m' c'] 24)) (some ⟨w.heap.size, 0, none⟩) [t, t'] := by
  refine ⟨_, Rd.new w 4 2 #[.int .i64 k, .int .i64 n, .string s, .slice A m c, .int .i64 k', .int .i64 n', .string s', .slice A' m' c'] 24 rfl, fun b off e _ => ?_, fun i hi => ?_⟩
  · injection e with e
    injection e with e1 _
    subst e1
    exact ⟨hlo, _, _, heap_alloc_new _ _⟩
  · rcases (show i = 0 ∨ i = 1 by simp at hi; omega) with h0 | h0
    · subst h0
      exact h.belowF (Below.alloc (Below.refl _ _) (Nat.le_refl _) _)
    · subst h0
      exact h'.belowF (Below.alloc (Below.refl _ _) (Nat.le_refl _) _)
theorem tmKinds_in : ∀ z ∈ tmKinds, i64in z := by unfold i64in; decide
--WALK--
set_option maxHeartbeats 3200000 in
set_option maxRecDepth 100000 in
theorem spec_l03Term (d : Nat) (hd : d ≤ 100) : DrC d := by
  induction d with
  | zero =>
    intro p A c code k w rd hl hc hk
    have RD := Lib.hid rd
    have HK := Lib.hid hk
    have hb := belowD_bd code (n := 12) (by decide) k
    have hpl := lt_of_block hk.at'
    have TZ0 := Lib.hid (@termD_zero code k)
    clear rd hk
    go_enter Tryd.func100, Tryd.ntmps100
    go_wp2_with fail
    refine (spec_l01Below 12 p A c code k _ (RD.out.alloc _) hl hc (HK.out.keep (by repeat' (first | exact Below.refl _ _ | exact Nat.le_refl _ | (refine Below.alloc ?_ ?_ _) | (refine Below.setCell ?_ ?_ _) | (refine Below.drew ?_) | (refine below_drewN ?_ _) | assumption | (simp; done) | (simp; omega)))) (by omega)).mono ?_
    rintro e w1 ⟨rfl, k1, kp1⟩
    have K1 := Lib.hid k1
    have P1 : Hid (Keep (fun b => b ≠ p) w w1) := Lib.hid ((Keep.alloc (Keep.refl _ _) _).trans kp1 (fun _ _ h => h))
    have R1 := Lib.hid (rd_apart (RD.out.alloc _) (HK.out.keep (by repeat' (first | exact Below.refl _ _ | exact Nat.le_refl _ | (refine Below.alloc ?_ ?_ _) | (refine Below.setCell ?_ ?_ _) | (refine Below.drew ?_) | (refine below_drewN ?_ _) | assumption | (simp; done) | (simp; omega)))) kp1)
    have X1 : Hid (BoxZ w1 w.heap.size) := Lib.hid (BoxZ.keep ⟨heap_alloc_new _ _⟩ kp1 (by omega))
    have hs1 := kp1.size
    simp only [World.size_alloc] at hs1
    clear k1 kp1
    generalize hx : belowD code 12 k = y at *
    obtain ⟨x, k1⟩ := y
    have HX := Lib.hid hx
    clear hx
    simp only at hb K1
    have TZ := TZ0.out
    clear TZ0
    simp only at TZ
    obtain ⟨h0, h1⟩ := hb
    by_cases h6 : 6 ≤ x
    · rw [if_pos h6] at TZ
      by_cases h3 : x - 6 < 3
      · rw [leafD_num h3] at TZ
        have TZ := Lib.hid TZ
        go_wp2_with fail
        refine (pick_nums _ p (by omega) A c code k1 _ (Rd.new _ 1 8 _ _ rfl) (R1.out.alloc _) hl hc (K1.out.keep (by repeat' (first | exact Below.refl _ _ | exact Nat.le_refl _ | (refine Below.alloc ?_ ?_ _) | (refine Below.setCell ?_ ?_ _) | (refine Below.drew ?_) | (refine below_drewN ?_ _) | assumption | (simp; done) | (simp; omega))))).mono ?_
        rintro e w2 ⟨rfl, k2, kp2⟩
        have K2 := Lib.hid k2
        have P2 : Hid (Keep (fun b => b ≠ p) w w2) := Lib.hid ((P1.out.alloc _).trans kp2 (fun _ _ h => h))
        have hs2 := kp2.size
        simp only [World.size_alloc] at hs2
        have X2 := (X1.out.below (Below.alloc (Below.refl w1.heap.size w1) (Nat.le_refl _) _)).keep kp2 (by omega)
        obtain ⟨⟨c0, c1, c2, c3⟩, f0, f1, f2, f3⟩ := X2.cells
        clear k2 kp2
        go_wp2_with fail
        refine bodyPost_ret (v := .agg #[.int .i64 1, .int .i64 (pickI tmNums (belowD code 8 k1).1), .string ⟨#[]⟩, .slice none 0 0]) (by simp [results, Tryd.results100, go_sem, c0, c1, c2, c3]) rfl ?_
        rw [TZ.out]
        refine ⟨_, _, _, _, _, _, rfl, TmIs.leaf (by unfold i64in; omega) (pickI_in i64in tmNums_in (by have := belowD_bd code (n := 8) (by decide) k1; show (belowD code 8 k1).1.toNat < 8; omega)) (Nat.zero_le _), put_cur (x := vt _ _ _ _ _ _) K2.out (by omega) , put_keep (x := vt _ _ _ _ _ _) P2.out (Nat.le_refl _)⟩
      · rw [leafD_var h3] at TZ
        have TZ := Lib.hid TZ
        go_wp2_with fail
        refine (pick_names _ p (by omega) A c code k1 _ (Rd.new _ 1 5 _ _ rfl) (R1.out.alloc _) hl hc (K1.out.keep (by repeat' (first | exact Below.refl _ _ | exact Nat.le_refl _ | (refine Below.alloc ?_ ?_ _) | (refine Below.setCell ?_ ?_ _) | (refine Below.drew ?_) | (refine below_drewN ?_ _) | assumption | (simp; done) | (simp; omega))))).mono ?_
        rintro e w2 ⟨rfl, k2, kp2⟩
        have K2 := Lib.hid k2
        have P2 : Hid (Keep (fun b => b ≠ p) w w2) := Lib.hid ((P1.out.alloc _).trans kp2 (fun _ _ h => h))
        have hs2 := kp2.size
        simp only [World.size_alloc] at hs2
        have X2 := (X1.out.below (Below.alloc (Below.refl w1.heap.size w1) (Nat.le_refl _) _)).keep kp2 (by omega)
        obtain ⟨⟨c0, c1, c2, c3⟩, f0, f1, f2, f3⟩ := X2.cells
        clear k2 kp2
        go_wp2_with fail
        refine bodyPost_ret (v := .agg #[.int .i64 2, .int .i64 0, .string (pickS tmNames (belowD code 5 k1).1), .slice none 0 0]) (by simp [results, Tryd.results100, go_sem, c0, c1, c2, c3]) rfl ?_
        rw [TZ.out]
        refine ⟨_, _, _, _, _, _, rfl, TmIs.leaf (by unfold i64in; omega) (by unfold i64in; omega) (pickS_in (fun s => s.size ≤ maxLen) tmNames_in (by have := belowD_bd code (n := 5) (by decide) k1; show (belowD code 5 k1).1.toNat < 5; omega)), put_cur (x := vt _ _ _ _ _ _) K2.out (by omega) , put_keep (x := vt _ _ _ _ _ _) P2.out (Nat.le_refl _)⟩
    · rw [if_neg h6] at TZ
      by_cases h3 : x < 3
      · rw [leafD_num h3] at TZ
        have TZ := Lib.hid TZ
        go_wp2_with fail
        refine (pick_nums _ p (by omega) A c code k1 _ (Rd.new _ 1 8 _ _ rfl) (R1.out.alloc _) hl hc (K1.out.keep (by repeat' (first | exact Below.refl _ _ | exact Nat.le_refl _ | (refine Below.alloc ?_ ?_ _) | (refine Below.setCell ?_ ?_ _) | (refine Below.drew ?_) | (refine below_drewN ?_ _) | assumption | (simp; done) | (simp; omega))))).mono ?_
        rintro e w2 ⟨rfl, k2, kp2⟩
        have K2 := Lib.hid k2
        have P2 : Hid (Keep (fun b => b ≠ p) w w2) := Lib.hid ((P1.out.alloc _).trans kp2 (fun _ _ h => h))
        have hs2 := kp2.size
        simp only [World.size_alloc] at hs2
        have X2 := (X1.out.below (Below.alloc (Below.refl w1.heap.size w1) (Nat.le_refl _) _)).keep kp2 (by omega)
        obtain ⟨⟨c0, c1, c2, c3⟩, f0, f1, f2, f3⟩ := X2.cells
        clear k2 kp2
        go_wp2_with fail
        refine bodyPost_ret (v := .agg #[.int .i64 1, .int .i64 (pickI tmNums (belowD code 8 k1).1), .string ⟨#[]⟩, .slice none 0 0]) (by simp [results, Tryd.results100, go_sem, c0, c1, c2, c3]) rfl ?_
        rw [TZ.out]
        refine ⟨_, _, _, _, _, _, rfl, TmIs.leaf (by unfold i64in; omega) (pickI_in i64in tmNums_in (by have := belowD_bd code (n := 8) (by decide) k1; show (belowD code 8 k1).1.toNat < 8; omega)) (Nat.zero_le _), put_cur (x := vt _ _ _ _ _ _) K2.out (by omega) , put_keep (x := vt _ _ _ _ _ _) P2.out (Nat.le_refl _)⟩
      · rw [leafD_var h3] at TZ
        have TZ := Lib.hid TZ
        go_wp2_with fail
        refine (pick_names _ p (by omega) A c code k1 _ (Rd.new _ 1 5 _ _ rfl) (R1.out.alloc _) hl hc (K1.out.keep (by repeat' (first | exact Below.refl _ _ | exact Nat.le_refl _ | (refine Below.alloc ?_ ?_ _) | (refine Below.setCell ?_ ?_ _) | (refine Below.drew ?_) | (refine below_drewN ?_ _) | assumption | (simp; done) | (simp; omega))))).mono ?_
        rintro e w2 ⟨rfl, k2, kp2⟩
        have K2 := Lib.hid k2
        have P2 : Hid (Keep (fun b => b ≠ p) w w2) := Lib.hid ((P1.out.alloc _).trans kp2 (fun _ _ h => h))
        have hs2 := kp2.size
        simp only [World.size_alloc] at hs2
        have X2 := (X1.out.below (Below.alloc (Below.refl w1.heap.size w1) (Nat.le_refl _) _)).keep kp2 (by omega)
        obtain ⟨⟨c0, c1, c2, c3⟩, f0, f1, f2, f3⟩ := X2.cells
        clear k2 kp2
        go_wp2_with fail
        refine bodyPost_ret (v := .agg #[.int .i64 2, .int .i64 0, .string (pickS tmNames (belowD code 5 k1).1), .slice none 0 0]) (by simp [results, Tryd.results100, go_sem, c0, c1, c2, c3]) rfl ?_
        rw [TZ.out]
        refine ⟨_, _, _, _, _, _, rfl, TmIs.leaf (by unfold i64in; omega) (by unfold i64in; omega) (pickS_in (fun s => s.size ≤ maxLen) tmNames_in (by have := belowD_bd code (n := 5) (by decide) k1; show (belowD code 5 k1).1.toNat < 5; omega)), put_cur (x := vt _ _ _ _ _ _) K2.out (by omega) , put_keep (x := vt _ _ _ _ _ _) P2.out (Nat.le_refl _)⟩
  | succ d ih =>
    intro p A c code k w rd hl hc hk
    have RD := Lib.hid rd
    have HK := Lib.hid hk
    have hb := belowD_bd code (n := 12) (by decide) k
    have hpl := lt_of_block hk.at'
    have TL0 := Lib.hid (@termD_leaf code d k)
    have TN0 := Lib.hid (@termD_not code d k)
    have TT0 := Lib.hid (@termD_two code d k)
    have hdz : ((d + 1 : Nat) : Int) - 1 = (d : Int) := by omega
    have hdp : ¬ (((d + 1 : Nat) : Int) ≤ 0) := by omega
    clear rd hk
    go_enter Tryd.func100, Tryd.ntmps100
    go_wp2_with fail
    refine (spec_l01Below 12 p A c code k _ (RD.out.alloc _) hl hc (HK.out.keep (by repeat' (first | exact Below.refl _ _ | exact Nat.le_refl _ | (refine Below.alloc ?_ ?_ _) | (refine Below.setCell ?_ ?_ _) | (refine Below.drew ?_) | (refine below_drewN ?_ _) | assumption | (simp; done) | (simp; omega)))) (by omega)).mono ?_
    rintro e w1 ⟨rfl, k1, kp1⟩
    have K1 := Lib.hid k1
    have P1 : Hid (Keep (fun b => b ≠ p) w w1) := Lib.hid ((Keep.alloc (Keep.refl _ _) _).trans kp1 (fun _ _ h => h))
    have R1 := Lib.hid (rd_apart (RD.out.alloc _) (HK.out.keep (by repeat' (first | exact Below.refl _ _ | exact Nat.le_refl _ | (refine Below.alloc ?_ ?_ _) | (refine Below.setCell ?_ ?_ _) | (refine Below.drew ?_) | (refine below_drewN ?_ _) | assumption | (simp; done) | (simp; omega)))) kp1)
    have X1 : Hid (BoxZ w1 w.heap.size) := Lib.hid (BoxZ.keep ⟨heap_alloc_new _ _⟩ kp1 (by omega))
    have hs1 := kp1.size
    simp only [World.size_alloc] at hs1
    clear k1 kp1
    generalize hx : belowD code 12 k = y at *
    obtain ⟨x, k1⟩ := y
    have HX := Lib.hid hx
    clear hx
    simp only at hb K1
    have TL := TL0.out
    have TN := TN0.out
    have TT := TT0.out
    simp only at TL TN TT
    clear TL0 TN0 TT0
    obtain ⟨h0, h1⟩ := hb
    by_cases h6 : x < 6
    · have TZ := TL h6
      clear TL TN TT ih hdz
      by_cases h3 : x < 3
      · rw [leafD_num h3] at TZ
        have TZ := Lib.hid TZ
        go_wp2_with fail
        refine (pick_nums _ p (by omega) A c code k1 _ (Rd.new _ 1 8 _ _ rfl) (R1.out.alloc _) hl hc (K1.out.keep (by repeat' (first | exact Below.refl _ _ | exact Nat.le_refl _ | (refine Below.alloc ?_ ?_ _) | (refine Below.setCell ?_ ?_ _) | (refine Below.drew ?_) | (refine below_drewN ?_ _) | assumption | (simp; done) | (simp; omega))))).mono ?_
        rintro e w2 ⟨rfl, k2, kp2⟩
        have K2 := Lib.hid k2
        have P2 : Hid (Keep (fun b => b ≠ p) w w2) := Lib.hid ((P1.out.alloc _).trans kp2 (fun _ _ h => h))
        have hs2 := kp2.size
        simp only [World.size_alloc] at hs2
        have X2 := (X1.out.below (Below.alloc (Below.refl w1.heap.size w1) (Nat.le_refl _) _)).keep kp2 (by omega)
        obtain ⟨⟨c0, c1, c2, c3⟩, f0, f1, f2, f3⟩ := X2.cells
        clear k2 kp2
        go_wp2_with fail
        refine bodyPost_ret (v := .agg #[.int .i64 1, .int .i64 (pickI tmNums (belowD code 8 k1).1), .string ⟨#[]⟩, .slice none 0 0]) (by simp [results, Tryd.results100, go_sem, c0, c1, c2, c3]) rfl ?_
        rw [TZ.out]
        refine ⟨_, _, _, _, _, _, rfl, TmIs.leaf (by unfold i64in; omega) (pickI_in i64in tmNums_in (by have := belowD_bd code (n := 8) (by decide) k1; show (belowD code 8 k1).1.toNat < 8; omega)) (Nat.zero_le _), put_cur (x := vt _ _ _ _ _ _) K2.out (by omega) , put_keep (x := vt _ _ _ _ _ _) P2.out (Nat.le_refl _)⟩
      · rw [leafD_var h3] at TZ
        have TZ := Lib.hid TZ
        go_wp2_with fail
        refine (pick_names _ p (by omega) A c code k1 _ (Rd.new _ 1 5 _ _ rfl) (R1.out.alloc _) hl hc (K1.out.keep (by repeat' (first | exact Below.refl _ _ | exact Nat.le_refl _ | (refine Below.alloc ?_ ?_ _) | (refine Below.setCell ?_ ?_ _) | (refine Below.drew ?_) | (refine below_drewN ?_ _) | assumption | (simp; done) | (simp; omega))))).mono ?_
        rintro e w2 ⟨rfl, k2, kp2⟩
        have K2 := Lib.hid k2
        have P2 : Hid (Keep (fun b => b ≠ p) w w2) := Lib.hid ((P1.out.alloc _).trans kp2 (fun _ _ h => h))
        have hs2 := kp2.size
        simp only [World.size_alloc] at hs2
        have X2 := (X1.out.below (Below.alloc (Below.refl w1.heap.size w1) (Nat.le_refl _) _)).keep kp2 (by omega)
        obtain ⟨⟨c0, c1, c2, c3⟩, f0, f1, f2, f3⟩ := X2.cells
        clear k2 kp2
        go_wp2_with fail
        refine bodyPost_ret (v := .agg #[.int .i64 2, .int .i64 0, .string (pickS tmNames (belowD code 5 k1).1), .slice none 0 0]) (by simp [results, Tryd.results100, go_sem, c0, c1, c2, c3]) rfl ?_
        rw [TZ.out]
        refine ⟨_, _, _, _, _, _, rfl, TmIs.leaf (by unfold i64in; omega) (by unfold i64in; omega) (pickS_in (fun s => s.size ≤ maxLen) tmNames_in (by have := belowD_bd code (n := 5) (by decide) k1; show (belowD code 5 k1).1.toNat < 5; omega)), put_cur (x := vt _ _ _ _ _ _) K2.out (by omega) , put_keep (x := vt _ _ _ _ _ _) P2.out (Nat.le_refl _)⟩
    · by_cases h7 : x = 6
      · have TZ := Lib.hid (TN h7)
        clear TL TN TT
        subst h7
        go_wp2_with fail
        refine (ih (by omega) p A c code k1 _ R1.out hl hc K1.out).mono ?_
        rintro e w2 ⟨a2, n2, s2, A2, m2, c2, rfl, t2, q2, kp2⟩
        have T2 := Lib.hid t2
        have K2 := Lib.hid q2
        have R2 := Lib.hid (rd_apart R1.out K1.out kp2)
        have P2 := Lib.hid (P1.out.trans kp2 (fun _ _ h => h))
        have X2 := Lib.hid (X1.out.keep kp2 (by omega))
        have hs2 := kp2.size
        have B2 := Lib.hid (row_one (T2.out.mono (lo' := w.heap.size + 1) hs1) (by omega))
        have X3 := X2.out.below (Below.alloc (Below.refl w2.heap.size w2) (Nat.le_refl _) (.cells #[.int .i64 a2, .int .i64 n2, .string s2, .slice A2 m2 c2] 24))
        obtain ⟨⟨c0, c1, c2', c3⟩, f0, f1, f2, f3⟩ := X3.cells
        clear t2 q2 kp2
        go_wp2_with fail
        refine bodyPost_ret (v := .agg #[.int .i64 8, .int .i64 0, .string ⟨#[]⟩, .slice (some ⟨w2.heap.size, 0, none⟩) 1 1]) (by simp [results, Tryd.results100, go_sem, c0, c1, c2', c3]) rfl ?_
        rw [TZ.out]
        refine ⟨_, _, _, _, _, _, rfl, TmIs.mk' (k := 8) (n := 0) (s := ByteArray.empty) (c := 1) (kids := [(termD code d k1).1]) (by unfold i64in; omega) (by unfold i64in; omega) (Nat.zero_le _) (by simp) (by simp [maxLen]) ?_, put_cur (x := vt _ _ _ _ _ _) (K2.out.keep (by repeat' (first | exact Below.refl _ _ | exact Nat.le_refl _ | (refine Below.alloc ?_ ?_ _) | (refine Below.setCell ?_ ?_ _) | (refine Below.drew ?_) | (refine below_drewN ?_ _) | assumption | (simp; done) | (simp; omega)))) (by omega), put_keep (x := vt _ _ _ _ _ _) (P2.out.alloc _) (Nat.le_refl _)⟩
        exact (B2.out.put4F (g := w.heap.size) (by omega) 0 (vt _ _ _ _ _ _)).mono (by omega)
      · have TZ := Lib.hid (TT (by omega))
        have h8 : ¬ x = 6 := h7
        have hxk := belowD_bd code (n := 6) (by decide) k1
        have hki := Lib.hid (pickI_in i64in tmKinds_in (x := (belowD code 6 k1).1) (by show _ < 6; omega))
        clear TL TN TT
        go_wp2_with fail
        refine (pick_kinds _ p (by omega) A c code k1 _ (Rd.new _ 1 6 _ _ rfl) (R1.out.alloc _) hl hc (K1.out.keep (by repeat' (first | exact Below.refl _ _ | exact Nat.le_refl _ | (refine Below.alloc ?_ ?_ _) | (refine Below.setCell ?_ ?_ _) | (refine Below.drew ?_) | (refine below_drewN ?_ _) | assumption | (simp; done) | (simp; omega))))).mono ?_
        rintro e w2 ⟨rfl, k2, kp2⟩
        have K2 := Lib.hid k2
        have P2 : Hid (Keep (fun b => b ≠ p) w w2) := Lib.hid ((P1.out.alloc _).trans kp2 (fun _ _ h => h))
        have R2 := Lib.hid (rd_apart (R1.out.alloc _) (K1.out.keep (by repeat' (first | exact Below.refl _ _ | exact Nat.le_refl _ | (refine Below.alloc ?_ ?_ _) | (refine Below.setCell ?_ ?_ _) | (refine Below.drew ?_) | (refine below_drewN ?_ _) | assumption | (simp; done) | (simp; omega)))) kp2)
        have hs2 := kp2.size
        simp only [World.size_alloc] at hs2
        have X2 := Lib.hid ((X1.out.below (Below.alloc (Below.refl w1.heap.size w1) (Nat.le_refl _) _)).keep kp2 (by omega))
        clear k2 kp2 hxk
        generalize hx6 : belowD code 6 k1 = y6 at *
        obtain ⟨x6, k6⟩ := y6
        clear hx6
        simp only at K2 hki
        have TZ := Lib.hid TZ.out
        go_wp2_with fail
        refine (ih (by omega) p A c code k6 _ R2.out hl hc K2.out).mono ?_
        rintro e w3 ⟨a3, n3, s3, A3, m3, c3, rfl, t3, q3, kp3⟩
        have T3 := Lib.hid t3
        have K3 := Lib.hid q3
        have R3 := Lib.hid (rd_apart R2.out K2.out kp3)
        have P3 := Lib.hid (P2.out.trans kp3 (fun _ _ h => h))
        have X3 := Lib.hid (X2.out.keep kp3 (by omega))
        have hs3 := kp3.size
        go_wp2_with fail
        refine (ih (by omega) p A c code _ _ R3.out hl hc K3.out).mono ?_
        rintro e w4 ⟨a4, n4, s4, A4, m4, c4, rfl, t4, q4, kp4⟩
        have T4 := Lib.hid t4
        have K4 := Lib.hid q4
        have R4 := Lib.hid (rd_apart R3.out K3.out kp4)
        have P4 := Lib.hid (P3.out.trans kp4 (fun _ _ h => h))
        have X4 := Lib.hid (X3.out.keep kp4 (by omega))
        have hs4 := kp4.size
        have U3 := T3.out.keepD (lo := w2.heap.size) kp4 (by omega)
        have B2 := Lib.hid (row_two (U3.mono (lo' := w.heap.size + 1) (by omega)) (T4.out.mono (lo' := w.heap.size + 1) (by omega)) (by omega))
        have X5 := X4.out.below (Below.alloc (Below.refl w4.heap.size w4) (Nat.le_refl _) (.cells #[.int .i64 a3, .int .i64 n3, .string s3, .slice A3 m3 c3, .int .i64 a4, .int .i64 n4, .string s4, .slice A4 m4 c4] 24))
        obtain ⟨⟨d0, d1, d2, d3⟩, f0, f1, f2, f3⟩ := X5.cells
        clear t3 q3 kp3 t4 q4 kp4 U3
        go_wp2_with fail
        refine bodyPost_ret (v := .agg #[.int .i64 (pickI tmKinds x6), .int .i64 0, .string ⟨#[]⟩, .slice (some ⟨w4.heap.size, 0, none⟩) 2 2]) (by simp [results, Tryd.results100, go_sem, d0, d1, d2, d3]) rfl ?_
        rw [TZ.out]
        refine ⟨_, _, _, _, _, _, rfl, TmIs.mk' (k := pickI tmKinds x6) (n := 0) (s := ByteArray.empty) (c := 2) (kids := [(termD code d k6).1, (termD code d (termD code d k6).2).1]) hki.out (by unfold i64in; omega) (Nat.zero_le _) (by simp) (by simp [maxLen]) ?_, put_cur (x := vt _ _ _ _ _ _) (K4.out.keep (by repeat' (first | exact Below.refl _ _ | exact Nat.le_refl _ | (refine Below.alloc ?_ ?_ _) | (refine Below.setCell ?_ ?_ _) | (refine Below.drew ?_) | (refine below_drewN ?_ _) | assumption | (simp; done) | (simp; omega)))) (by omega), put_keep (x := vt _ _ _ _ _ _) (P4.out.alloc _) (Nat.le_refl _)⟩
        exact (B2.out.put4F (g := w.heap.size) (by omega) 0 (vt _ _ _ _ _ _)).mono (by omega)
end Go.Proofs.YtefcdpkficojgaaDoor
