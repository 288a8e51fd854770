/- Several texts in one: Draw. -/
import Derived.Test.YtadcebdhgocmhaaKs2
import Derived.Laws.BitsLemmas
import Derived.IntWalk
import Derived.OneCell
import Derived.BigRegion
import Derived.Deep.QuietTactic
import Derived.BigQuiet
namespace Go.Proofs.Ytadcebdhgocmhaa
open Go.RowKit
set_option linter.unusedVariables false


theorem and255 (n : Int) : bits .and .i64 n 255 = n % 256 := by
  have h1 : (BitVec.ofInt 64 255).toNat = 2 ^ 8 - 1 := by decide
  have key : (BitVec.ofInt 64 n &&& BitVec.ofInt 64 255).toNat = (n % ((2 ^ 64 : Nat) : Int)).toNat % 2 ^ 8 := by
    rw [BitVec.toNat_and, BitVec.toNat_ofInt, h1, Nat.and_two_pow_sub_one_eq_mod]
  show IntKind.i64.wrap ((BitVec.ofInt 64 n &&& BitVec.ofInt 64 255).toNat : Nat) = n % 256
  rw [key, IntKind.wrap_i64]
  omega
theorem and30 (n : Int) : bits .and .i64 n 1073741823 = n % 1073741824 := by
  have h1 : (BitVec.ofInt 64 1073741823).toNat = 2 ^ 30 - 1 := by decide
  have key : (BitVec.ofInt 64 n &&& BitVec.ofInt 64 1073741823).toNat = (n % ((2 ^ 64 : Nat) : Int)).toNat % 2 ^ 30 := by
    rw [BitVec.toNat_and, BitVec.toNat_ofInt, h1, Nat.and_two_pow_sub_one_eq_mod]
  show IntKind.i64.wrap ((BitVec.ofInt 64 n &&& BitVec.ofInt 64 1073741823).toNat : Nat) = n % 1073741824
  rw [key, IntKind.wrap_i64]
  omega
/-- where the cursor stands -/
structure Cur where
  i : Nat
  h : Int
def hashL (h : Int) (l : List UInt8) : Int := l.foldl (fun h c => (h * 131 + (c.toNat : Int) + 7) % 1073741824) h
theorem hashL_snoc (h : Int) (l : List UInt8) (c : UInt8) : hashL h (l ++ [c]) = (hashL h l * 131 + (c.toNat : Int) + 7) % 1073741824 := by simp [hashL]
theorem hashL_bd (h : Int) (l : List UInt8) (h0 : 0 ≤ h) (h1 : h ≤ 1073741824) : 0 ≤ hashL h l ∧ hashL h l ≤ 1073741824 := by
  induction l generalizing h with
  | nil => exact ⟨h0, h1⟩
  | cons c r ih =>
    have e : hashL h (c :: r) = hashL ((h * 131 + (c.toNat : Int) + 7) % 1073741824) r := rfl
    rw [e]
    exact ih _ (by omega) (by omega)
def curNew (code : List UInt8) : Cur := ⟨0, hashL (94701 + (code.length : Int)) (code.take 4000)⟩
/-- the cursor in block p over the bytes that lie at A -/
structure CurAt (w : World) (p : Nat) (A : Option Addr) (c : Nat) (code : List UInt8) (k : Cur) : Prop where
  at' : w.heap[p]? = some (.cells #[.slice A code.length c, .int .i64 (k.i : Int), .int .i64 k.h] 95 (0, 0))
  le : k.i ≤ code.length
set_option maxHeartbeats 800000 in
theorem spec_l01New (A : Option Addr) (c : Nat) (code : List UInt8) (w : World) (rd : Rd w 1 A code.length (bv code)) (hl : code.length ≤ 1048576) (hc : c ≤ maxLen) :
    Calls Try.prog 25 #[.slice A code.length c] w fun e w' => ∃ p, e = .returned (.pointer (some ⟨p, 0, none⟩)) ∧ w.heap.size ≤ p ∧ CurAt w' p A c code (curNew code) ∧ Below w.heap.size w w' := by
  unfold maxLen at hc
  have RD := Lib.hid rd
  clear rd
  go_enter Try.func25, Try.ntmps25
  go_wp2_with fail
  go_loop [3, 4] (fun hv i => ∃ k : Nat, k ≤ code.length ∧ k ≤ 4000 ∧ i = .int .i64 k ∧ hv = .int .i64 (hashL (94701 + (code.length : Int)) (code.take k))) (fun _ i => code.length - (intOf i).toNat)
  case atStart => exact ⟨0, Nat.zero_le _, by omega, rfl, rfl⟩
  case round =>
    obtain ⟨k, hk, hk4, rfl, rfl⟩ := hrel
    have hbd := hashL_bd (94701 + (code.length : Int)) (code.take k) (by omega) (by omega)
    by_cases hlt : k < code.length ∧ k < 4000
    · obtain ⟨h1, h2⟩ := hlt
      obtain ⟨b, off, rfl, hcell⟩ := RD.out.2 (by omega)
      have hcl : w.cell? ⟨b, off + k, none⟩ = some (.int .u8 (code[k].toNat : Int)) := hcell k _ (by simp [bv, h1])
      have hcb : code[k].toNat < 256 := code[k].toNat_lt
      have h0k : (0 : Int) ≤ (k : Int) := by omega
      have h1k : (k : Int) < (code.length : Int) := by omega
      have h2k : (k : Int) < 4000 := by omega
      have HS : Hid (hashL (94701 + (code.length : Int)) (code.take (k + 1)) = (hashL (94701 + (code.length : Int)) (code.take k) * 131 + (code[k].toNat : Int) + 7) % 1073741824) := Lib.hid (by
        have e : code.take (k + 1) = code.take k ++ [code[k]] := List.take_succ_eq_append_getElem h1
        rw [e, hashL_snoc])
      clear hcell
      generalize hashL (94701 + (code.length : Int)) (code.take k) = hh at *
      go_wp2_with fail
      go_round
      case rel => exact ⟨k + 1, by omega, by omega, by go_num, by rw [and30, HS.out]⟩
      case measure => simp [intOf]; omega
    · have HE : Hid (hashL (94701 + (code.length : Int)) (code.take k) = (curNew code).h) := Lib.hid (by
        unfold curNew
        simp only
        by_cases h : k < code.length
        · rw [show k = 4000 from by omega]
        · rw [List.take_of_length_le (by omega), List.take_of_length_le (by omega)])
      rw [HE.out] at hbd ⊢
      have FIN : Hid (CurAt (w.alloc (.cells #[.slice A code.length c, .int .i64 0, .int .i64 (curNew code).h] 95)) w.heap.size A c code (curNew code)) := Lib.hid ⟨heap_alloc_new _ _, Nat.zero_le _⟩
      generalize (curNew code).h = hh at *
      rcases (show (¬ (k < code.length)) ∨ (k < code.length ∧ ¬ (k < 4000)) by omega) with h1 | ⟨h1, h2⟩
      · have h1k : ¬ ((k : Int) < (code.length : Int)) := by omega
        go_wp2_with fail
        go_ret
        exact ⟨_, rfl, Nat.le_refl _, FIN.out, (by repeat' (first | exact Below.refl _ _ | exact Nat.le_refl _ | (refine Below.alloc ?_ ?_ _) | (refine Below.setCell ?_ ?_ _) | (refine Below.drew ?_) | (refine below_drewN ?_ _) | assumption | (simp; done) | (simp; omega)))⟩
      · have h1k : (k : Int) < (code.length : Int) := by omega
        have h2k : ¬ ((k : Int) < 4000) := by omega
        go_wp2_with fail
        go_ret
        exact ⟨_, rfl, Nat.le_refl _, FIN.out, (by repeat' (first | exact Below.refl _ _ | exact Nat.le_refl _ | (refine Below.alloc ?_ ?_ _) | (refine Below.setCell ?_ ?_ _) | (refine Below.drew ?_) | (refine below_drewN ?_ _) | assumption | (simp; done) | (simp; omega)))⟩
def nextH (h : Int) : Int := wrap64 (wrap64 (h * 6364136223846793005) + 1442695040888963407)
def mixH (h : Int) : Int := bits .xor .i64 (h / 8589934592) (h / 35184372088832) % 256
theorem mixH_bd (h : Int) : 0 ≤ mixH h ∧ mixH h < 256 := by unfold mixH; omega
def byteD (code : List UInt8) (k : Cur) : Int × Cur :=
  if hi : k.i < code.length then ((mixH (nextH k.h) + (code[k.i].toNat : Int)) % 256, ⟨k.i + 1, nextH k.h⟩) else (mixH (nextH k.h), ⟨k.i, nextH k.h⟩)
theorem byteD_bd (code : List UInt8) (k : Cur) : 0 ≤ (byteD code k).1 ∧ (byteD code k).1 < 256 := by
  have := mixH_bd (nextH k.h)
  unfold byteD
  split
  · simp only; omega
  · exact this
set_option maxHeartbeats 800000 in
theorem spec_l01Byte (p : Nat) (A : Option Addr) (c : Nat) (code : List UInt8) (k : Cur) (w : World) (rd : Rd w 1 A code.length (bv code)) (hl : code.length ≤ 1048576) (hc : c ≤ maxLen) (hk : CurAt w p A c code k) :
    Calls Try.prog 93 #[.pointer (some ⟨p, 0, none⟩)] w fun e w' => e = .returned (.int .i64 (byteD code k).1) ∧ CurAt w' p A c code (byteD code k).2 ∧ Keep (fun b => b ≠ p) w w' := by
  unfold maxLen at hc
  obtain ⟨i, h⟩ := k
  have HK := Lib.hid hk
  have hh := hk.at'
  have c0 : w.cell? ⟨p, 0, none⟩ = some (.slice A code.length c) := by simp [World.cell?, hh]
  have c1 : w.cell? ⟨p, 1, none⟩ = some (.int .i64 (i : Int)) := by simp [World.cell?, hh]
  have c2 : w.cell? ⟨p, 2, none⟩ = some (.int .i64 h) := by simp [World.cell?, hh]
  have f1 : w.frozen? ⟨p, 1, none⟩ = false := by simp [World.frozen?, hh]
  have f2 : w.frozen? ⟨p, 2, none⟩ = false := by simp [World.frozen?, hh]
  have RD := Lib.hid rd
  have hle := hk.le
  simp only at hle
  have HH := Lib.hid hh
  clear hk rd hh
  go_enter Try.func93, Try.ntmps93
  go_wp2_with fail
  generalize hn : wrap64 (wrap64 (h * 6364136223846793005) + 1442695040888963407) = n
  have HN : Hid (nextH h = n) := Lib.hid hn
  clear hn
  have b1 : (w.setCell ⟨p, 2, none⟩ (.int .i64 n)).heap[p]? = some (.cells #[.slice A code.length c, .int .i64 (i : Int), .int .i64 n] 95 (0, 0)) := heap_setCell_same w p 2 _ _ _ HH.out
  have B1 := Lib.hid b1
  have K1 : Hid (Keep (fun b => b ≠ p) w (w.setCell ⟨p, 2, none⟩ (.int .i64 n))) := Lib.hid ((Keep.refl _ _).setCell (p := ⟨p, 2, none⟩) (fun h => h rfl) _)
  clear b1 c0 c1 c2 f1 f2
  generalize w.setCell ⟨p, 2, none⟩ (.int .i64 n) = W1 at *
  have c0 : W1.cell? ⟨p, 0, none⟩ = some (.slice A code.length c) := by simp [World.cell?, B1.out]
  have c1 : W1.cell? ⟨p, 1, none⟩ = some (.int .i64 (i : Int)) := by simp [World.cell?, B1.out]
  have c2 : W1.cell? ⟨p, 2, none⟩ = some (.int .i64 n) := by simp [World.cell?, B1.out]
  have f1 : W1.frozen? ⟨p, 1, none⟩ = false := by simp [World.frozen?, B1.out]
  go_quiet (fail)
  rw [and255]
  have hm := mixH_bd n
  have hme : bits .xor .i64 (n / 8589934592) (n / 35184372088832) % 256 = mixH n := rfl
  rw [hme]
  have HF : Hid (byteD code ⟨i, h⟩ = if hi : i < code.length then ((mixH n + (code[i].toNat : Int)) % 256, ⟨i + 1, n⟩) else (mixH n, ⟨i, n⟩)) := Lib.hid (by unfold byteD; simp only [HN.out])
  clear hme
  generalize mixH n = m at *
  have K2 : Hid (Keep (fun b => b ≠ p) w (W1.drewN nq)) := Lib.hid (K1.out.trans (Keep.of_below (S := fun _ => True) (below_drewN (Below.refl _ _) nq)) (fun _ _ _ => trivial))
  have B2 : Hid ((W1.drewN nq).heap[p]? = some (.cells #[.slice A code.length c, .int .i64 (i : Int), .int .i64 n] 95 (0, 0))) := B1
  clear c0 c1 c2 f1 K1 B1
  by_cases hi : i < code.length
  · obtain ⟨b, off, rfl, hc0⟩ := RD.out.2 (by omega)
    have hcw : w.cell? ⟨b, off + i, none⟩ = some (.int .u8 (code[i].toNat : Int)) := hc0 i _ (by simp [bv, hi])
    have hbp : b ≠ p := by
      intro e
      subst e
      simp only [World.cell?, HH.out] at hcw
      rcases (show off + i = 0 ∨ off + i = 1 ∨ off + i = 2 ∨ 3 ≤ off + i by omega) with e | e | e | e
      · rw [e] at hcw; simp at hcw
      · rw [e] at hcw; simp at hcw
      · rw [e] at hcw; simp at hcw
      · obtain ⟨hlt3, _⟩ := Array.getElem?_eq_some_iff.1 hcw
        simp at hlt3
        omega
    have hcell := K2.out.cellEq hbp hcw
    have hcb : code[i].toNat < 256 := code[i].toNat_lt
    have HF2 : Hid (byteD code ⟨i, h⟩ = ((m + (code[i].toNat : Int)) % 256, ⟨i + 1, n⟩)) := Lib.hid (by rw [HF.out, dif_pos hi])
    have h0i : (0 : Int) ≤ (i : Int) := by omega
    have h1i : (i : Int) < (code.length : Int) := by omega
    clear hc0 hcw
    generalize W1.drewN nq = W2 at *
    have c0 : W2.cell? ⟨p, 0, none⟩ = some (.slice (some ⟨b, off, none⟩) code.length c) := by simp [World.cell?, B2.out]
    have c1 : W2.cell? ⟨p, 1, none⟩ = some (.int .i64 (i : Int)) := by simp [World.cell?, B2.out]
    have f1 : W2.frozen? ⟨p, 1, none⟩ = false := by simp [World.frozen?, B2.out]
    go_wp2_with fail
    go_quiet (fail)
    go_wp2_with fail
    go_quiet (fail)
    go_wp2_with fail
    rw [and255]
    go_wp2_with fail
    go_ret
    rw [HF2.out]
    refine ⟨rfl, ⟨?_, by simp only; omega⟩, ?_⟩
    · exact heap_setCell_same _ p 1 _ _ _ B2.out
    · exact (K2.out.trans (Keep.of_below (S := fun _ => True) (below_drewN (Below.refl _ _) _)) (fun _ _ _ => trivial)).setCell (p := ⟨p, 1, none⟩) (fun h => h rfl) _
  · have HF2 : Hid (byteD code ⟨i, h⟩ = (m, ⟨i, n⟩)) := Lib.hid (by rw [HF.out, dif_neg hi])
    have h1i : ¬ ((i : Int) < (code.length : Int)) := by omega
    generalize W1.drewN nq = W2 at *
    have c0 : W2.cell? ⟨p, 0, none⟩ = some (.slice A code.length c) := by simp [World.cell?, B2.out]
    have c1 : W2.cell? ⟨p, 1, none⟩ = some (.int .i64 (i : Int)) := by simp [World.cell?, B2.out]
    go_wp2_with fail
    go_quiet (fail)
    go_wp2_with fail
    go_ret
    rw [HF2.out]
    exact ⟨rfl, ⟨B2.out, hle⟩, K2.out.trans (Keep.of_below (S := fun _ => True) (below_drewN (Below.refl _ _) _)) (fun _ _ _ => trivial)⟩
def belowD (code : List UInt8) (n : Int) (k : Cur) : Int × Cur :=
  if n ≤ 0 then (0, k) else if n ≤ 256 then ((byteD code k).1 % n, (byteD code k).2)
  else
    let a := byteD code k
    let b := byteD code a.2
    let c := byteD code b.2
    let d := byteD code c.2
    ((a.1 * 16777216 + b.1 * 65536 + c.1 * 256 + d.1) % n, d.2)
theorem belowD_bd (code : List UInt8) {n : Int} (h : 0 < n) (k : Cur) : 0 ≤ (belowD code n k).1 ∧ (belowD code n k).1 < n := by
  unfold belowD
  rw [if_neg (by omega)]
  split
  · exact ⟨Int.emod_nonneg _ (by omega), Int.emod_lt_of_pos _ h⟩
  · exact ⟨Int.emod_nonneg _ (by omega), Int.emod_lt_of_pos _ h⟩
theorem CurAt.keep {w w' : World} {p : Nat} {A : Option Addr} {c : Nat} {code : List UInt8} {k : Cur} (h : CurAt w p A c code k) (hk : Below w.heap.size w w') : CurAt w' p A c code k := ⟨(hk.block p (lt_of_block h.at')).trans h.at', h.le⟩
/-- the bytes lie apart from the cursor -/
theorem rd_apart {w w' : World} {p : Nat} {A : Option Addr} {c : Nat} {code : List UInt8} {k : Cur} (rd : Rd w 1 A code.length (bv code)) (h : CurAt w p A c code k) (hk : Keep (fun b => b ≠ p) w w') : Rd w' 1 A code.length (bv code) := by
  refine ⟨rd.1, fun hn => ?_⟩
  obtain ⟨b, off, rfl, hc⟩ := rd.2 hn
  refine ⟨b, off, rfl, fun j u hu => hk.cellEq ?_ (hc j u hu)⟩
  intro e
  simp only at e
  subst e
  have hcw := hc j u hu
  simp only [World.cell?, h.at'] at hcw
  obtain ⟨x, _, rfl⟩ := List.mem_map.1 (List.mem_of_getElem? hu)
  rcases (show off + j = 0 ∨ off + j = 1 ∨ off + j = 2 ∨ 3 ≤ off + j by omega) with e | e | e | e
  · rw [e] at hcw; simp at hcw
  · rw [e] at hcw; simp at hcw
  · rw [e] at hcw; simp at hcw
  · obtain ⟨hlt3, _⟩ := Array.getElem?_eq_some_iff.1 hcw
    simp at hlt3
    omega
set_option maxHeartbeats 1600000 in
theorem spec_l01Below (n : Int) (p : Nat) (A : Option Addr) (c : Nat) (code : List UInt8) (k : Cur) (w : World) (rd : Rd w 1 A code.length (bv code)) (hl : code.length ≤ 1048576) (hc : c ≤ maxLen) (hk : CurAt w p A c code k) (hn : n ≤ 1000000000) :
    Calls Try.prog 62 #[.pointer (some ⟨p, 0, none⟩), .int .i64 n] w fun e w' => e = .returned (.int .i64 (belowD code n k).1) ∧ CurAt w' p A c code (belowD code n k).2 ∧ Keep (fun b => b ≠ p) w w' := by
  have RD := Lib.hid rd
  have HK := Lib.hid hk
  clear rd hk
  by_cases h0 : n ≤ 0
  · have HB : Hid (belowD code n k = (0, k)) := Lib.hid (by unfold belowD; rw [if_pos h0])
    go_enter Try.func62, Try.ntmps62
    go_wp2_with fail
    go_ret
    rw [HB.out]
    exact ⟨rfl, HK.out, Keep.refl _ _⟩
  by_cases h1 : n ≤ 256
  · have HB : Hid (belowD code n k = ((byteD code k).1 % n, (byteD code k).2)) := Lib.hid (by unfold belowD; rw [if_neg h0, if_pos h1])
    have hb := byteD_bd code k
    have hn0 : 0 < n := by omega
    have hne : (n == 0) = false := by simp; omega
    go_enter Try.func62, Try.ntmps62
    go_wp2_with fail
    refine (spec_l01Byte p A c code k _ RD.out hl hc HK.out).mono ?_
    rintro e w1 ⟨rfl, k1, kp1⟩
    have K1 := Lib.hid k1
    have P1 := Lib.hid kp1
    clear k1 kp1
    generalize hbd : byteD code k = bk at *
    clear hbd
    obtain ⟨x, k'⟩ := bk
    simp only at hb
    go_wp2_with fail
    go_ret
    rw [HB.out]
    exact ⟨rfl, K1.out, P1.out⟩
  · have h1' : ¬ (n ≤ 256) := h1
    have HB : Hid (belowD code n k = (((byteD code k).1 * 16777216 + (byteD code (byteD code k).2).1 * 65536 + (byteD code (byteD code (byteD code k).2).2).1 * 256 + (byteD code (byteD code (byteD code (byteD code k).2).2).2).1) % n, (byteD code (byteD code (byteD code (byteD code k).2).2).2).2)) := Lib.hid (by unfold belowD; rw [if_neg h0, if_neg h1])
    have hn0 : 0 < n := by omega
    have hne : (n == 0) = false := by simp; omega
    have ha := byteD_bd code k
    have hb := byteD_bd code (byteD code k).2
    have hcc := byteD_bd code (byteD code (byteD code k).2).2
    have hd := byteD_bd code (byteD code (byteD code (byteD code k).2).2).2
    go_enter Try.func62, Try.ntmps62
    go_wp2_with fail
    refine (spec_l01Byte p A c code k _ RD.out hl hc HK.out).mono ?_
    rintro e w1 ⟨rfl, k1, kp1⟩
    have K1 := Lib.hid k1
    have P1 := Lib.hid kp1
    have R1 := Lib.hid (rd_apart RD.out HK.out kp1)
    clear k1 kp1
    generalize hx1 : byteD code k = y1 at *
    clear hx1
    obtain ⟨x1, k1⟩ := y1
    simp only at ha hb hcc hd K1
    go_wp2_with fail
    refine (spec_l01Byte p A c code k1 _ R1.out hl hc K1.out).mono ?_
    rintro e w2 ⟨rfl, k2, kp2⟩
    have K2 := Lib.hid k2
    have P2 := Lib.hid (P1.out.trans kp2 (fun _ _ h => h))
    have R2 := Lib.hid (rd_apart R1.out K1.out kp2)
    clear k2 kp2
    generalize hx2 : byteD code k1 = y2 at *
    clear hx2
    obtain ⟨x2, k2⟩ := y2
    simp only at hb hcc hd K2
    go_wp2_with fail
    refine (spec_l01Byte p A c code k2 _ R2.out hl hc K2.out).mono ?_
    rintro e w3 ⟨rfl, k3, kp3⟩
    have K3 := Lib.hid k3
    have P3 := Lib.hid (P2.out.trans kp3 (fun _ _ h => h))
    have R3 := Lib.hid (rd_apart R2.out K2.out kp3)
    clear k3 kp3
    generalize hx3 : byteD code k2 = y3 at *
    clear hx3
    obtain ⟨x3, k3⟩ := y3
    simp only at hcc hd K3
    go_wp2_with fail
    refine (spec_l01Byte p A c code k3 _ R3.out hl hc K3.out).mono ?_
    rintro e w4 ⟨rfl, k4, kp4⟩
    have K4 := Lib.hid k4
    have P4 := Lib.hid (P3.out.trans kp4 (fun _ _ h => h))
    clear k4 kp4
    generalize hx4 : byteD code k3 = y4 at *
    clear hx4
    obtain ⟨x4, k4⟩ := y4
    simp only at hd K4
    go_wp2_with fail
    go_ret
    rw [HB.out]
    exact ⟨rfl, K4.out, P4.out⟩
end Go.Proofs.Ytadcebdhgocmhaa
