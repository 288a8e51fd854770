/- Lemmas for the row. -/
import Derived.Test.YtnmblfonmfjoeaaGreatDoorKc25
import Derived.Laws.BitsLemmas
import Derived.BigRegion
namespace Go.Proofs.YtnmblfonmfjoeaaGreatDoor
open Go.RowKit
set_option maxHeartbeats 1600000
set_option linter.unusedVariables false
theorem spec_CodeOk (p : Cd) (x : V5) (w : World) (hp : CdIs w x p) (htot : totCd p ≤ 1048576) :
  Calls Tryz.prog 34 #[x.val p] w fun e w' => e = .returned (.bool (decP (CodOk p))) ∧ Below w.heap.size w w' := by
 obtain ⟨gA, gc, lA, lc, pA, pc, eA, ec, iA, ic⟩ := x
 have HP := qh hp
 have hgl := hp.g1
 have hgc := hp.g2
 have hll := hp.l1
 have hlc := hp.l2
 have hpl := hp.p1
 have hpc := hp.p2
 have hel := hp.e1
 have hec := hp.e2
 have hil := hp.i1
 have hic := hp.i2
 simp only at hgl hgc hll hlc hpl hpc hel hec hil hic
 clear hp
 unfold V5.val
 simp only
 unfold maxLen at hgc hlc hpc hec hic
 by_cases hh : HeadOk p
 case neg =>
  have F : Hid (¬ CodOk p) := qh (fun h => hh h.head)
  have N := qh (decP_no hh)
  clear hh
  go_enter Tryz.func34, Tryz.ntmps34
  go_wp2_with fail
  refine (spec_l08Heads p ⟨gA, gc, lA, lc, pA, pc, eA, ec, iA, ic⟩ _ (HP.out.belowA zB)).mono ?_
  rintro e w1 ⟨rfl, b1⟩
  have BB := qh (Below.trans zB (b1.mono (by simp)) : Below w.heap.size w w1)
  rw [N.out]
  clear b1
  go_wp2_with fail
  go_ret
  exact ⟨ret_bool (decP_no F.out).symm, BB.out⟩
 have HH := qh hh
 have N := qh (decP_yes hh)
 clear hh
 go_enter Tryz.func34, Tryz.ntmps34
 go_wp2_with fail
 refine (spec_l08Heads p ⟨gA, gc, lA, lc, pA, pc, eA, ec, iA, ic⟩ _ (HP.out.belowA zB)).mono ?_
 rintro e w1 ⟨rfl, b1⟩
 have BB := qh (Below.trans zB (b1.mono (by simp)) : Below w.heap.size w w1)
 have BX := qh ((Box5.new w ⟨gA, gc, lA, lc, pA, pc, eA, ec, iA, ic⟩ p 32).below b1)
 rw [N.out]
 clear b1
 obtain ⟨p0, p1, p2, p3, p4⟩ := BX.out
 simp only at p0 p1 p2 p3 p4
 go_wp2_with fail
 clear p0 p1 p2 p3 p4
 go_loopw [3] (fun z wr => ∃ k : Nat, k ≤ p.ins.length ∧ z = .int .i64 k ∧ Hid (Below w.heap.size w wr ∧ Box5 wr w.heap.size ⟨gA, gc, lA, lc, pA, pc, eA, ec, iA, ic⟩ p) ∧ Hid (∀ j (h : j < p.ins.length), j < k → insB p p.ins[j] (bE p j) (lE p j) = true)) (fun z _ => p.ins.length - (intOf z).toNat)
 case atStart => exact ⟨0, Nat.zero_le _, rfl, qh ⟨BB.out, BX.out⟩, qh (fun j h h2 => by omega)⟩
 case round =>
  obtain ⟨k, hk, rfl, HB, HT⟩ := hrel
  obtain ⟨p0, p1, p2, p3, p4⟩ := HB.out.2
  simp only at p0 p1 p2 p3 p4
  by_cases hlt : k < p.ins.length
  ·cases hq : insB p p.ins[k] (bE p k) (lE p k) with
   | false =>
    have F : Hid (¬ CodOk p) := qh (fun h => by rw [h.ins k hlt] at hq; cases hq)
    have HQ := qh hq
    clear hq
    go_wp2_with fail
    refine (spec_l08Ins p ⟨gA, gc, lA, lc, pA, pc, eA, ec, iA, ic⟩ _ (HP.out.belowA HB.out.1) k hlt htot HH.out).mono ?_
    rintro e w9 ⟨rfl, b1⟩
    have B9 := qh (below_then HB.out.1 b1)
    rw [HQ.out]
    clear b1 p0 p1 p2 p3 p4
    go_wp2_with fail
    go_ret
    exact ⟨ret_bool (decP_no F.out).symm, B9.out⟩
   | true =>
    have T : Hid (∀ j (h : j < p.ins.length), j < k + 1 → insB p p.ins[j] (bE p j) (lE p j) = true) := qh (fun j h h2 => by
     by_cases e : j = k
     ·subst e; exact hq
     ·exact HT.out j h (by omega))
    have HQ := qh hq
    clear hq
    go_wp2_with fail
    refine (spec_l08Ins p ⟨gA, gc, lA, lc, pA, pc, eA, ec, iA, ic⟩ _ (HP.out.belowA HB.out.1) k hlt htot HH.out).mono ?_
    rintro e w9 ⟨rfl, b1⟩
    have B9 := qh (And.intro (below_then HB.out.1 b1) (HB.out.2.below b1))
    rw [HQ.out]
    clear b1 p0 p1 p2 p3 p4
    go_wp2_with fail
    go_roundw
    case rel => exact ⟨k + 1, by omega, by go_num, B9, T⟩
    case measure => simp [intOf]; omega
  ·have T : Hid (CodOk p) := qh ⟨HH.out, fun j h => HT.out j h (by omega)⟩
   go_wp2_with fail
   go_ret
   exact ⟨ret_bool (decP_yes T.out).symm, HB.out.1⟩
noncomputable def procR (p : Cd) (a : Int) : Int := if (decP (CodOk p) && inB a 0 ((p.ins.length : Int) - 1)) = true then procE p.entry a p.entry.length else -1
theorem procR_no1 {p : Cd} {a : Int} (h : decP (CodOk p) = false) : procR p a = -1 := by unfold procR; rw [h]; rfl
theorem procR_no2 {p : Cd} {a : Int} (h : inB a 0 ((p.ins.length : Int) - 1) = false) : procR p a = -1 := by unfold procR; rw [h, Bool.and_false]; rfl
theorem procR_yes {p : Cd} {a : Int} (h : decP (CodOk p) = true) (h2 : inB a 0 ((p.ins.length : Int) - 1) = true) : procR p a = procE p.entry a p.entry.length := by unfold procR; rw [h, h2]; rfl
noncomputable def endR (p : Cd) (a : Int) : Int := if (decP (CodOk p) && inB a 0 ((p.procs.length : Int) - 1)) = true then endE p.entry p.ins.length a else -1
theorem endR_no1 {p : Cd} {a : Int} (h : decP (CodOk p) = false) : endR p a = -1 := by unfold endR; rw [h]; rfl
theorem endR_no2 {p : Cd} {a : Int} (h : inB a 0 ((p.procs.length : Int) - 1) = false) : endR p a = -1 := by unfold endR; rw [h, Bool.and_false]; rfl
theorem endR_yes {p : Cd} {a : Int} (h : decP (CodOk p) = true) (h2 : inB a 0 ((p.procs.length : Int) - 1) = true) : endR p a = endE p.entry p.ins.length a := by unfold endR; rw [h, h2]; rfl
theorem inB_dest {a b c : Int} (h : inB a b c = true) : b ≤ a ∧ a ≤ c := by
 unfold inB at h
 simp only [Bool.and_eq_true, decide_eq_true_eq] at h
 exact h
theorem inE_yes {a b c : Int} (h : b ≤ a) (h2 : a ≤ c) : inB a b c = true := by unfold inB; simp [h, h2]
theorem code_procs (p : Pg) : (codeP p).procs = pnames p.procs := rfl
theorem code_end {p : Pg} (h : faultR p = 0) {i : Nat} (hi : i < p.procs.length) : endR (codeP p) (i : Int) = (pl p (i + 1) : Int) - 1 := by
 rw [endR_yes (decP_yes (code_ok h)) (inE_yes (by omega) (by rw [code_procs, pnames_len]; omega)), endE_fin, code_fin p hi]
theorem pl_up (p : Pg) {i : Nat} (hi : i < p.procs.length) : pl p i < pl p (i + 1) := by rw [pl_succ p hi]; omega
theorem pl_in (p : Pg) {i j : Nat} (h : j < pl p (i + 1)) : j < (codeP p).ins.length := Nat.lt_of_lt_of_le h (pl_top p (i + 1))
theorem code_len {p : Pg} (h : faultR p = 0) : (codeP p).ins.length ≤ 1500 := (code_ok h).head.small
theorem code_op {p : Pg} (h : faultR p = 0) {i : Nat} (hi : i < p.procs.length) (hj : pl p (i + 1) - 1 < (codeP p).ins.length) : (codeP p).ins[pl p (i + 1) - 1].op = 9 := by
 have hu := pl_up p hi
 rcases code_ins p hi (j := pl p (i + 1) - 1) (by omega) (by omega) hj with ⟨_, b⟩ | ⟨a, _⟩
 ·rw [b]; rfl
 ·omega
theorem code_proc {p : Pg} (h : faultR p = 0) {i j : Nat} (hi : i < p.procs.length) (h1 : pl p i ≤ j) (h2 : j < pl p (i + 1)) : procR (codeP p) (j : Int) = (i : Int) := by
 have hj := pl_in p h2
 have rise := (code_ok h).head.ent.rise
 rw [opsC_len] at rise
 rw [procR_yes (decP_yes (code_ok h)) (inE_yes (by omega) (by omega))]
 refine procE_in rise (by rw [code_entry_len]; exact hi) (by rw [code_entry p hi]; omega) (by rw [code_fin p hi]; omega)
theorem code_proc_len (p : Pg) : procR (codeP p) ((codeP p).ins.length : Int) = -1 := procR_no2 (by unfold inB; simp; omega)
theorem code_tot (p : Pg) : totCd (codeP p) ≤ totS p.globals + totS p.locks + totS (pnames p.procs) + p.procs.length + 4 * totPrs p.procs := by
 have h1 := totIs_insR (envP p) p.procs 0
 have h3 := code_entry_len p
 unfold totCd
 rw [code_procs, h3]
 show totS p.globals + totS p.locks + _ + _ + totIs (insR (envP p) 0 p.procs) ≤ _
 omega
theorem and255 (n : Int) : bits .and .i64 n 255 = n % 256 := by
 have h1 : (BitVec.ofInt 64 255).toNat = 2 ^ 8 - 1 := by decide
 have key : (BitVec.ofInt 64 n &&& BitVec.ofInt 64 255).toNat = (n % ((2 ^ 64 : Nat) : Int)).toNat % 2 ^ 8 := by
  rw [BitVec.toNat_and, BitVec.toNat_ofInt, h1, Nat.and_two_pow_sub_one_eq_mod]
 show IntKind.i64.wrap ((BitVec.ofInt 64 n &&& BitVec.ofInt 64 255).toNat : Nat) = n % 256
 rw [key, IntKind.wrap_i64]
 omega
theorem and30 (n : Int) : bits .and .i64 n 1073741823 = n % 1073741824 := by
 have h1 : (BitVec.ofInt 64 1073741823).toNat = 2 ^ 30 - 1 := by decide
 have key : (BitVec.ofInt 64 n &&& BitVec.ofInt 64 1073741823).toNat = (n % ((2 ^ 64 : Nat) : Int)).toNat % 2 ^ 30 := by
  rw [BitVec.toNat_and, BitVec.toNat_ofInt, h1, Nat.and_two_pow_sub_one_eq_mod]
 show IntKind.i64.wrap ((BitVec.ofInt 64 n &&& BitVec.ofInt 64 1073741823).toNat : Nat) = n % 1073741824
 rw [key, IntKind.wrap_i64]
 omega
structure Cur where
 i : Nat
 h : Int
def hashL (h : Int) (l : List UInt8) : Int := l.foldl (fun h c => (h * 131 + (c.toNat : Int) + 7) % 1073741824) h
theorem hashL_snoc (h : Int) (l : List UInt8) (c : UInt8) : hashL h (l ++ [c]) = (hashL h l * 131 + (c.toNat : Int) + 7) % 1073741824 := by simp [hashL]
theorem hashL_bd (h : Int) (l : List UInt8) (h0 : 0 ≤ h) (h1 : h ≤ 1073741824) : 0 ≤ hashL h l ∧ hashL h l ≤ 1073741824 := by
 induction l generalizing h with
 | nil => exact ⟨h0, h1⟩
 | cons c r ih =>
  have e : hashL h (c :: r) = hashL ((h * 131 + (c.toNat : Int) + 7) % 1073741824) r := rfl
  rw [e]
  exact ih _ (by omega) (by omega)
def curNew (code : List UInt8) : Cur := ⟨0, hashL (94701 + (code.length : Int)) (code.take 4000)⟩
structure CurAt (w : World) (p : Nat) (A : Option Addr) (c : Nat) (code : List UInt8) (k : Cur) : Prop where
 at' : w.heap[p]? = some (.cells #[.slice A code.length c, .int .i64 (k.i : Int), .int .i64 k.h] 76 (0, 0))
 le : k.i ≤ code.length
theorem spec_l01New (A : Option Addr) (c : Nat) (code : List UInt8) (w : World) (rd : Rd w 1 A code.length (bv code)) (hl : code.length ≤ 1048576) (hc : c ≤ maxLen) :
  Calls Tryz.prog 15 #[.slice A code.length c] w fun e w' => ∃ p, e = .returned (.pointer (some ⟨p, 0, none⟩)) ∧ w.heap.size ≤ p ∧ CurAt w' p A c code (curNew code) ∧ Below w.heap.size w w' := by
 unfold maxLen at hc
 have RD := qh rd
 clear rd
 go_enter Tryz.func15, Tryz.ntmps15
 go_wp2_with fail
 go_loop [3, 4] (fun hv i => ∃ k : Nat, k ≤ code.length ∧ k ≤ 4000 ∧ i = .int .i64 k ∧ hv = .int .i64 (hashL (94701 + (code.length : Int)) (code.take k))) (fun _ i => code.length - (intOf i).toNat)
 case atStart => exact ⟨0, Nat.zero_le _, by omega, rfl, rfl⟩
 case round =>
  obtain ⟨k, hk, hk4, rfl, rfl⟩ := hrel
  have hbd := hashL_bd (94701 + (code.length : Int)) (code.take k) (by omega) (by omega)
  by_cases hlt : k < code.length ∧ k < 4000
  ·obtain ⟨h1, h2⟩ := hlt
   obtain ⟨b, off, rfl, hcell⟩ := RD.out.2 (by omega)
   have hcl : w.cell? ⟨b, off + k, none⟩ = some (.int .u8 (code[k].toNat : Int)) := hcell k _ (by simp [bv, h1])
   have hcb : code[k].toNat < 256 := code[k].toNat_lt
   have h0k : (0 : Int) ≤ (k : Int) := by omega
   have h1k : (k : Int) < (code.length : Int) := by omega
   have h2k : (k : Int) < 4000 := by omega
   have HS : Hid (hashL (94701 + (code.length : Int)) (code.take (k + 1)) = (hashL (94701 + (code.length : Int)) (code.take k) * 131 + (code[k].toNat : Int) + 7) % 1073741824) := qh (by
    have e : code.take (k + 1) = code.take k ++ [code[k]] := List.take_succ_eq_append_getElem h1
    rw [e, hashL_snoc])
   clear hcell
   generalize hashL (94701 + (code.length : Int)) (code.take k) = hh at *
   go_wp2_with fail
   go_round
   case rel => exact ⟨k + 1, by omega, by omega, by go_num, by rw [and30, HS.out]⟩
   case measure => simp [intOf]; omega
  ·have HE : Hid (hashL (94701 + (code.length : Int)) (code.take k) = (curNew code).h) := qh (by
    unfold curNew
    simp only
    by_cases h : k < code.length
    ·rw [show k = 4000 from by omega]
    ·rw [List.take_of_length_le (by omega), List.take_of_length_le (by omega)])
   rw [HE.out] at hbd ⊢
   have FIN : Hid (CurAt (w.alloc (.cells #[.slice A code.length c, .int .i64 0, .int .i64 (curNew code).h] 76)) w.heap.size A c code (curNew code)) := qh ⟨heap_alloc_new _ _, Nat.zero_le _⟩
   generalize (curNew code).h = hh at *
   rcases (show (¬ (k < code.length)) ∨ (k < code.length ∧ ¬ (k < 4000)) by omega) with h1 | ⟨h1, h2⟩
   ·have h1k : ¬ ((k : Int) < (code.length : Int)) := by omega
    go_wp2_with fail
    go_ret
    exact ⟨_, rfl, Nat.le_refl _, FIN.out, zB⟩
   ·have h1k : (k : Int) < (code.length : Int) := by omega
    have h2k : ¬ ((k : Int) < 4000) := by omega
    go_wp2_with fail
    go_ret
    exact ⟨_, rfl, Nat.le_refl _, FIN.out, zB⟩
def nextH (h : Int) : Int := wrap64 (wrap64 (h * 6364136223846793005) + 1442695040888963407)
def mixH (h : Int) : Int := bits .xor .i64 (h / 8589934592) (h / 35184372088832) % 256
theorem mixH_bd (h : Int) : 0 ≤ mixH h ∧ mixH h < 256 := by unfold mixH; omega
def byteD (code : List UInt8) (k : Cur) : Int × Cur :=
 if hi : k.i < code.length then ((mixH (nextH k.h) + (code[k.i].toNat : Int)) % 256, ⟨k.i + 1, nextH k.h⟩) else (mixH (nextH k.h), ⟨k.i, nextH k.h⟩)
theorem byteD_bd (code : List UInt8) (k : Cur) : 0 ≤ (byteD code k).1 ∧ (byteD code k).1 < 256 := by
 have := mixH_bd (nextH k.h)
 unfold byteD
 split
 ·simp only; omega
 ·exact this
theorem spec_l01Byte (p : Nat) (A : Option Addr) (c : Nat) (code : List UInt8) (k : Cur) (w : World) (rd : Rd w 1 A code.length (bv code)) (hl : code.length ≤ 1048576) (hc : c ≤ maxLen) (hk : CurAt w p A c code k) :
  Calls Tryz.prog 70 #[.pointer (some ⟨p, 0, none⟩)] w fun e w' => e = .returned (.int .i64 (byteD code k).1) ∧ CurAt w' p A c code (byteD code k).2 ∧ Keep (fun b => b ≠ p) w w' := by
 unfold maxLen at hc
 obtain ⟨i, h⟩ := k
 have HK := qh hk
 have hh := hk.at'
 have c0 : w.cell? ⟨p, 0, none⟩ = some (.slice A code.length c) := by simp [World.cell?, hh]
 have c1 : w.cell? ⟨p, 1, none⟩ = some (.int .i64 (i : Int)) := by simp [World.cell?, hh]
 have c2 : w.cell? ⟨p, 2, none⟩ = some (.int .i64 h) := by simp [World.cell?, hh]
 have f1 : w.frozen? ⟨p, 1, none⟩ = false := by simp [World.frozen?, hh]
 have f2 : w.frozen? ⟨p, 2, none⟩ = false := by simp [World.frozen?, hh]
 have RD := qh rd
 have hle := hk.le
 simp only at hle
 have HH := qh hh
 clear hk rd hh
 go_enter Tryz.func70, Tryz.ntmps70
 go_wp2_with fail
 generalize hn : wrap64 (wrap64 (h * 6364136223846793005) + 1442695040888963407) = n
 have HN : Hid (nextH h = n) := qh hn
 clear hn
 have b1 : (w.setCell ⟨p, 2, none⟩ (.int .i64 n)).heap[p]? = some (.cells #[.slice A code.length c, .int .i64 (i : Int), .int .i64 n] 76 (0, 0)) := heap_setCell_same w p 2 _ _ _ HH.out
 have B1 := qh b1
 have K1 : Hid (Keep (fun b => b ≠ p) w (w.setCell ⟨p, 2, none⟩ (.int .i64 n))) := qh ((Keep.refl _ _).setCell (p := ⟨p, 2, none⟩) (fun h => h rfl) _)
 clear b1 c0 c1 c2 f1 f2
 generalize w.setCell ⟨p, 2, none⟩ (.int .i64 n) = W1 at *
 have c0 : W1.cell? ⟨p, 0, none⟩ = some (.slice A code.length c) := by simp [World.cell?, B1.out]
 have c1 : W1.cell? ⟨p, 1, none⟩ = some (.int .i64 (i : Int)) := by simp [World.cell?, B1.out]
 have c2 : W1.cell? ⟨p, 2, none⟩ = some (.int .i64 n) := by simp [World.cell?, B1.out]
 have f1 : W1.frozen? ⟨p, 1, none⟩ = false := by simp [World.frozen?, B1.out]
 go_quiet (fail)
 rw [and255]
 have hm := mixH_bd n
 have hme : bits .xor .i64 (n / 8589934592) (n / 35184372088832) % 256 = mixH n := rfl
 rw [hme]
 have HF : Hid (byteD code ⟨i, h⟩ = if hi : i < code.length then ((mixH n + (code[i].toNat : Int)) % 256, ⟨i + 1, n⟩) else (mixH n, ⟨i, n⟩)) := qh (by unfold byteD; simp only [HN.out])
 clear hme
 generalize mixH n = m at *
 have K2 : Hid (Keep (fun b => b ≠ p) w (W1.drewN nq)) := qh (K1.out.trans (Keep.of_below (S := fun _ => True) (below_drewN (Below.refl _ _) nq)) (fun _ _ _ => trivial))
 have B2 : Hid ((W1.drewN nq).heap[p]? = some (.cells #[.slice A code.length c, .int .i64 (i : Int), .int .i64 n] 76 (0, 0))) := B1
 clear c0 c1 c2 f1 K1 B1
 by_cases hi : i < code.length
 ·obtain ⟨b, off, rfl, hc0⟩ := RD.out.2 (by omega)
  have hcw : w.cell? ⟨b, off + i, none⟩ = some (.int .u8 (code[i].toNat : Int)) := hc0 i _ (by simp [bv, hi])
  have hbp : b ≠ p := by
   intro e
   subst e
   simp only [World.cell?, HH.out] at hcw
   rcases (show off + i = 0 ∨ off + i = 1 ∨ off + i = 2 ∨ 3 ≤ off + i by omega) with e | e | e | e
   ·rw [e] at hcw; simp at hcw
   ·rw [e] at hcw; simp at hcw
   ·rw [e] at hcw; simp at hcw
   ·obtain ⟨hlt3, _⟩ := Array.getElem?_eq_some_iff.1 hcw
    simp at hlt3
    omega
  have hcell := K2.out.cellEq hbp hcw
  have hcb : code[i].toNat < 256 := code[i].toNat_lt
  have HF2 : Hid (byteD code ⟨i, h⟩ = ((m + (code[i].toNat : Int)) % 256, ⟨i + 1, n⟩)) := qh (by rw [HF.out, dif_pos hi])
  have h0i : (0 : Int) ≤ (i : Int) := by omega
  have h1i : (i : Int) < (code.length : Int) := by omega
  clear hc0 hcw
  generalize W1.drewN nq = W2 at *
  have c0 : W2.cell? ⟨p, 0, none⟩ = some (.slice (some ⟨b, off, none⟩) code.length c) := by simp [World.cell?, B2.out]
  have c1 : W2.cell? ⟨p, 1, none⟩ = some (.int .i64 (i : Int)) := by simp [World.cell?, B2.out]
  have f1 : W2.frozen? ⟨p, 1, none⟩ = false := by simp [World.frozen?, B2.out]
  go_wp2_with fail
  go_quiet (fail)
  go_wp2_with fail
  go_quiet (fail)
  go_wp2_with fail
  rw [and255]
  go_wp2_with fail
  go_ret
  rw [HF2.out]
  refine ⟨rfl, ⟨?_, by simp only; omega⟩, ?_⟩
  ·exact heap_setCell_same _ p 1 _ _ _ B2.out
  ·exact (K2.out.trans (Keep.of_below (S := fun _ => True) (below_drewN (Below.refl _ _) _)) (fun _ _ _ => trivial)).setCell (p := ⟨p, 1, none⟩) (fun h => h rfl) _
 ·have HF2 : Hid (byteD code ⟨i, h⟩ = (m, ⟨i, n⟩)) := qh (by rw [HF.out, dif_neg hi])
  have h1i : ¬ ((i : Int) < (code.length : Int)) := by omega
  generalize W1.drewN nq = W2 at *
  have c0 : W2.cell? ⟨p, 0, none⟩ = some (.slice A code.length c) := by simp [World.cell?, B2.out]
  have c1 : W2.cell? ⟨p, 1, none⟩ = some (.int .i64 (i : Int)) := by simp [World.cell?, B2.out]
  go_wp2_with fail
  go_quiet (fail)
  go_wp2_with fail
  go_ret
  rw [HF2.out]
  exact ⟨rfl, ⟨B2.out, hle⟩, K2.out.trans (Keep.of_below (S := fun _ => True) (below_drewN (Below.refl _ _) _)) (fun _ _ _ => trivial)⟩
def belowD (code : List UInt8) (n : Int) (k : Cur) : Int × Cur :=
 if n ≤ 0 then (0, k) else if n ≤ 256 then ((byteD code k).1 % n, (byteD code k).2)
 else
  let a := byteD code k
  let b := byteD code a.2
  let c := byteD code b.2
  let d := byteD code c.2
  ((a.1 * 16777216 + b.1 * 65536 + c.1 * 256 + d.1) % n, d.2)
theorem belowD_bd (code : List UInt8) {n : Int} (h : 0 < n) (k : Cur) : 0 ≤ (belowD code n k).1 ∧ (belowD code n k).1 < n := by
 unfold belowD
 rw [if_neg (by omega)]
 split
 ·exact ⟨Int.emod_nonneg _ (by omega), Int.emod_lt_of_pos _ h⟩
 ·exact ⟨Int.emod_nonneg _ (by omega), Int.emod_lt_of_pos _ h⟩
theorem CurAt.keep {w w' : World} {p : Nat} {A : Option Addr} {c : Nat} {code : List UInt8} {k : Cur} (h : CurAt w p A c code k) (hk : Below w.heap.size w w') : CurAt w' p A c code k := ⟨(hk.block p (lt_of_block h.at')).trans h.at', h.le⟩
theorem rd_apart {w w' : World} {p : Nat} {A : Option Addr} {c : Nat} {code : List UInt8} {k : Cur} (rd : Rd w 1 A code.length (bv code)) (h : CurAt w p A c code k) (hk : Keep (fun b => b ≠ p) w w') : Rd w' 1 A code.length (bv code) := by
 refine ⟨rd.1, fun hn => ?_⟩
 obtain ⟨b, off, rfl, hc⟩ := rd.2 hn
 refine ⟨b, off, rfl, fun j u hu => hk.cellEq ?_ (hc j u hu)⟩
 intro e
 simp only at e
 subst e
 have hcw := hc j u hu
 simp only [World.cell?, h.at'] at hcw
 obtain ⟨x, _, rfl⟩ := List.mem_map.1 (List.mem_of_getElem? hu)
 rcases (show off + j = 0 ∨ off + j = 1 ∨ off + j = 2 ∨ 3 ≤ off + j by omega) with e | e | e | e
 ·rw [e] at hcw; simp at hcw
 ·rw [e] at hcw; simp at hcw
 ·rw [e] at hcw; simp at hcw
 ·obtain ⟨hlt3, _⟩ := Array.getElem?_eq_some_iff.1 hcw
  simp at hlt3
  omega
theorem spec_l01Below (n : Int) (p : Nat) (A : Option Addr) (c : Nat) (code : List UInt8) (k : Cur) (w : World) (rd : Rd w 1 A code.length (bv code)) (hl : code.length ≤ 1048576) (hc : c ≤ maxLen) (hk : CurAt w p A c code k) (hn : n ≤ 1000000000) :
  Calls Tryz.prog 38 #[.pointer (some ⟨p, 0, none⟩), .int .i64 n] w fun e w' => e = .returned (.int .i64 (belowD code n k).1) ∧ CurAt w' p A c code (belowD code n k).2 ∧ Keep (fun b => b ≠ p) w w' := by
 have RD := qh rd
 have HK := qh hk
 clear rd hk
 by_cases h0 : n ≤ 0
 ·have HB : Hid (belowD code n k = (0, k)) := qh (by unfold belowD; rw [if_pos h0])
  go_enter Tryz.func38, Tryz.ntmps38
  go_wp2_with fail
  go_ret
  rw [HB.out]
  exact ⟨rfl, HK.out, Keep.refl _ _⟩
 by_cases h1 : n ≤ 256
 ·have HB : Hid (belowD code n k = ((byteD code k).1 % n, (byteD code k).2)) := qh (by unfold belowD; rw [if_neg h0, if_pos h1])
  have hb := byteD_bd code k
  have hn0 : 0 < n := by omega
  have hne : (n == 0) = false := by simp; omega
  go_enter Tryz.func38, Tryz.ntmps38
  go_wp2_with fail
  refine (spec_l01Byte p A c code k _ RD.out hl hc HK.out).mono ?_
  rintro e w1 ⟨rfl, k1, kp1⟩
  have K1 := qh k1
  have P1 := qh kp1
  clear k1 kp1
  generalize hbd : byteD code k = bk at *
  clear hbd
  obtain ⟨x, k'⟩ := bk
  simp only at hb
  go_wp2_with fail
  go_ret
  rw [HB.out]
  exact ⟨rfl, K1.out, P1.out⟩
 ·have h1' : ¬ (n ≤ 256) := h1
  have HB : Hid (belowD code n k = (((byteD code k).1 * 16777216 + (byteD code (byteD code k).2).1 * 65536 + (byteD code (byteD code (byteD code k).2).2).1 * 256 + (byteD code (byteD code (byteD code (byteD code k).2).2).2).1) % n, (byteD code (byteD code (byteD code (byteD code k).2).2).2).2)) := qh (by unfold belowD; rw [if_neg h0, if_neg h1])
  have hn0 : 0 < n := by omega
  have hne : (n == 0) = false := by simp; omega
  have ha := byteD_bd code k
  have hb := byteD_bd code (byteD code k).2
  have hcc := byteD_bd code (byteD code (byteD code k).2).2
  have hd := byteD_bd code (byteD code (byteD code (byteD code k).2).2).2
  go_enter Tryz.func38, Tryz.ntmps38
  go_wp2_with fail
  refine (spec_l01Byte p A c code k _ RD.out hl hc HK.out).mono ?_
  rintro e w1 ⟨rfl, k1, kp1⟩
  have K1 := qh k1
  have P1 := qh kp1
  have R1 := qh (rd_apart RD.out HK.out kp1)
  clear k1 kp1
  generalize hx1 : byteD code k = y1 at *
  clear hx1
  obtain ⟨x1, k1⟩ := y1
  simp only at ha hb hcc hd K1
  go_wp2_with fail
  refine (spec_l01Byte p A c code k1 _ R1.out hl hc K1.out).mono ?_
  rintro e w2 ⟨rfl, k2, kp2⟩
  have K2 := qh k2
  have P2 := qh (P1.out.trans kp2 (fun _ _ h => h))
  have R2 := qh (rd_apart R1.out K1.out kp2)
  clear k2 kp2
  generalize hx2 : byteD code k1 = y2 at *
  clear hx2
  obtain ⟨x2, k2⟩ := y2
  simp only at hb hcc hd K2
  go_wp2_with fail
  refine (spec_l01Byte p A c code k2 _ R2.out hl hc K2.out).mono ?_
  rintro e w3 ⟨rfl, k3, kp3⟩
  have K3 := qh k3
  have P3 := qh (P2.out.trans kp3 (fun _ _ h => h))
  have R3 := qh (rd_apart R2.out K2.out kp3)
  clear k3 kp3
  generalize hx3 : byteD code k2 = y3 at *
  clear hx3
  obtain ⟨x3, k3⟩ := y3
  simp only at hcc hd K3
  go_wp2_with fail
  refine (spec_l01Byte p A c code k3 _ R3.out hl hc K3.out).mono ?_
  rintro e w4 ⟨rfl, k4, kp4⟩
  have K4 := qh k4
  have P4 := qh (P3.out.trans kp4 (fun _ _ h => h))
  clear k4 kp4
  generalize hx4 : byteD code k3 = y4 at *
  clear hx4
  obtain ⟨x4, k4⟩ := y4
  simp only at hd K4
  go_wp2_with fail
  go_ret
  rw [HB.out]
  exact ⟨rfl, K4.out, P4.out⟩
set_option maxRecDepth 100000 in
theorem open_code {H : Type} {enc : TypeId × Value → H} {w : World} {r : Reach} {b0 base : Nat} {spare : Nat → Bool} {held : Bool} {v : Value} {d : DataW H} {p : List MemPlace} (hv : Value.okWide Tryz.prog w r b0 22 v) (h : DataW.Trod enc Tryz.prog w base spare held 22 v d p) :
  ∃ code : List UInt8, ∃ A c, v = .slice A code.length c ∧ code.length ≤ c ∧ c ≤ maxLen ∧ Rd w 1 A code.length (bv code) := by
 obtain ⟨a0, len, cap, rfl⟩ := Go.WideShapes.okWide_slice Tryz.underlying22 hv
 obtain ⟨fuel, hf⟩ := h
 obtain ⟨u, l, hu, hr⟩ := open_cells (R := fun cs (z : UInt8) => cs = [Value.int .u8 (z.toNat : Int)] ∧ True) (by decide) Tryz.underlying22 (by kernel_rfl : Tryz.prog.cellsOf 5 = 1) hf (fun n cs y _ hy => by
  obtain ⟨z, e, _, wf⟩ := DataW.trod_int Tryz.underlying5 hy
  have hz : 0 ≤ z ∧ z < 256 := by
   simp [Lit.wf, IntKind.min, IntKind.max, IntKind.signed, IntKind.bits] at wf
   omega
  refine ⟨UInt8.ofNat z.toNat, ?_, trivial⟩
  rw [e]
  have : ((UInt8.ofNat z.toNat).toNat : Int) = z := by simp; omega
  rw [this])
 simp only [Value.cells, List.cons.injEq, and_true] at hu
 subst hu
 obtain ⟨A, c, e, h1, h2, rd⟩ := hr.rows.1
 refine ⟨l, A, c, e, h1, h2, ?_⟩
 have : bv l = l.flatMap (fun z => [Value.int .u8 (z.toNat : Int)]) := by
  unfold bv
  rw [List.map_eq_flatMap]
 rw [this]; exact rd
theorem big_yes (A : Option Addr) (l c : Nat) (w : World) (h : 1048576 < l) : Calls Tryz.prog 4 #[.slice A l c] w fun e w' => e = .returned (.bool true) ∧ w = w' := by
 have h1 : (1048576 : Int) < (l : Int) := by omega
 go_enter Tryz.func4, Tryz.ntmps4
 go_wp2_with fail
 go_ret
 exact ⟨rfl, rfl⟩
theorem big_no (A : Option Addr) (l c : Nat) (w : World) (h : ¬ 1048576 < l) : Calls Tryz.prog 4 #[.slice A l c] w fun e w' => e = .returned (.bool false) ∧ w = w' := by
 have h1 : ¬ (1048576 : Int) < (l : Int) := by omega
 go_enter Tryz.func4, Tryz.ntmps4
 go_wp2_with fail
 go_ret
 exact ⟨rfl, rfl⟩
theorem Keep.fresh {p : Nat} {w w' : World} (h : Keep (fun b => b ≠ p) w w') : Keep (fun b => b ≠ p ∧ b < w.heap.size) w w' := ⟨h.os, h.tape, h.output, h.size, fun k hk hS => h.block k hk hS.1⟩
theorem Keep.old {p n : Nat} {w w' : World} (h : Keep (fun b => b ≠ p ∧ b < n) w w') (hn : w.heap.size ≤ n) : Keep (fun b => b ≠ p) w w' := ⟨h.os, h.tape, h.output, h.size, fun k hk hS => h.block k hk ⟨hS, by omega⟩⟩
theorem Keep.setNew {p n : Nat} {w w' : World} (h : Keep (fun b => b ≠ p ∧ b < n) w w') {a : Addr} (ha : n ≤ a.block) (u : Value) : Keep (fun b => b ≠ p ∧ b < n) w (w'.setCell a u) := h.setCell (fun hS => by have := hS.2; omega) u
theorem CurAt.setNew {w : World} {p : Nat} {A : Option Addr} {c : Nat} {code : List UInt8} {k : Cur} (h : CurAt w p A c code k) {a : Addr} (ha : a.block ≠ p) (u : Value) : CurAt (w.setCell a u) p A c code k := ⟨(Below.heap_setCell w a u p (fun e => ha e.symm)).trans h.at', h.le⟩
def pickI (zs : List Int) (x : Int) : Int := zs[x.toNat]?.getD 0
def pickS (ss : List ByteArray) (x : Int) : ByteArray := ss[x.toNat]?.getD ByteArray.empty
theorem pickI_mem {zs : List Int} {x : Int} (h : x.toNat < zs.length) : pickI zs x ∈ zs := by
 unfold pickI
 rw [List.getElem?_eq_getElem h]
 exact List.getElem_mem h
theorem pickS_mem {ss : List ByteArray} {x : Int} (h : x.toNat < ss.length) : pickS ss x ∈ ss := by
 unfold pickS
 rw [List.getElem?_eq_getElem h]
 exact List.getElem_mem h
theorem spec_l01PickInt (zs : List Int) (hz : 0 < zs.length) (hz2 : zs.length ≤ 256) (b p : Nat) (hbp : b ≠ p) (A : Option Addr) (c : Nat) (code : List UInt8) (k : Cur) (w : World) (rz : Rd w 1 (some ⟨b, 0, none⟩) zs.length (zs.map (Value.int .i64))) (rd : Rd w 1 A code.length (bv code)) (hl : code.length ≤ 1048576) (hc : c ≤ maxLen) (hk : CurAt w p A c code k) :
  Calls Tryz.prog 106 #[.pointer (some ⟨p, 0, none⟩), .slice (some ⟨b, 0, none⟩) zs.length zs.length] w fun e w' => e = .returned (.int .i64 (pickI zs (belowD code (zs.length : Int) k).1)) ∧ CurAt w' p A c code (belowD code (zs.length : Int) k).2 ∧ Keep (fun b => b ≠ p) w w' := by
 have RD := qh rd
 have HK := qh hk
 have RZ := qh rz
 have hbd := belowD_bd code (n := (zs.length : Int)) (by omega) k
 clear rd hk rz
 go_enter Tryz.func106, Tryz.ntmps106
 go_wp2_with fail
 refine (spec_l01Below (zs.length : Int) p A c code k _ RD.out hl hc HK.out (by omega)).mono ?_
 rintro e w1 ⟨rfl, k1, kp1⟩
 have K1 := qh k1
 have P1 := qh kp1
 clear k1 kp1
 generalize hx : belowD code (zs.length : Int) k = y at *
 obtain ⟨x, k'⟩ := y
 have HX := qh hx
 clear hx
 simp only at hbd K1
 obtain ⟨h0, h1⟩ := hbd
 have hlt : x.toNat < zs.length := by omega
 obtain ⟨b', off', e', hcell⟩ := RZ.out.2 hz
 injection e' with e'
 injection e' with e1 e2
 subst e1 e2
 have hcl := P1.out.cellEq (p := ⟨b, 0 + x.toNat, none⟩) hbp (hcell x.toNat (.int .i64 zs[x.toNat]) (by simp [hlt]))
 have hpk : pickI zs x = zs[x.toNat] := by unfold pickI; rw [List.getElem?_eq_getElem hlt]; rfl
 have HP := qh hpk
 rw [Nat.zero_add] at hcl
 clear hcell hpk
 go_wp2_with fail
 go_ret
 rw [HX.out]
 exact ⟨by rw [HP.out]; rfl, K1.out, P1.out⟩
theorem spec_l01Pick (ss : List ByteArray) (hz : 0 < ss.length) (hz2 : ss.length ≤ 256) (b p : Nat) (hbp : b ≠ p) (A : Option Addr) (c : Nat) (code : List UInt8) (k : Cur) (w : World) (rz : Rd w 1 (some ⟨b, 0, none⟩) ss.length (ss.map Value.string)) (rd : Rd w 1 A code.length (bv code)) (hl : code.length ≤ 1048576) (hc : c ≤ maxLen) (hk : CurAt w p A c code k) :
  Calls Tryz.prog 72 #[.pointer (some ⟨p, 0, none⟩), .slice (some ⟨b, 0, none⟩) ss.length ss.length] w fun e w' => e = .returned (.string (pickS ss (belowD code (ss.length : Int) k).1)) ∧ CurAt w' p A c code (belowD code (ss.length : Int) k).2 ∧ Keep (fun b => b ≠ p) w w' := by
 have RD := qh rd
 have HK := qh hk
 have RZ := qh rz
 have hbd := belowD_bd code (n := (ss.length : Int)) (by omega) k
 clear rd hk rz
 go_enter Tryz.func72, Tryz.ntmps72
 go_wp2_with fail
 refine (spec_l01Below (ss.length : Int) p A c code k _ RD.out hl hc HK.out (by omega)).mono ?_
 rintro e w1 ⟨rfl, k1, kp1⟩
 have K1 := qh k1
 have P1 := qh kp1
 clear k1 kp1
 generalize hx : belowD code (ss.length : Int) k = y at *
 obtain ⟨x, k'⟩ := y
 have HX := qh hx
 clear hx
 simp only at hbd K1
 obtain ⟨h0, h1⟩ := hbd
 have hlt : x.toNat < ss.length := by omega
 obtain ⟨b', off', e', hcell⟩ := RZ.out.2 hz
 injection e' with e'
 injection e' with e1 e2
 subst e1 e2
 have hcl := P1.out.cellEq (p := ⟨b, 0 + x.toNat, none⟩) hbp (hcell x.toNat (.string ss[x.toNat]) (by simp [hlt]))
 have hpk : pickS ss x = ss[x.toNat] := by unfold pickS; rw [List.getElem?_eq_getElem hlt]; rfl
 have HP := qh hpk
 rw [Nat.zero_add] at hcl
 clear hcell hpk
 go_wp2_with fail
 go_ret
 rw [HX.out]
 exact ⟨by rw [HP.out]; rfl, K1.out, P1.out⟩
end Go.Proofs.YtnmblfonmfjoeaaGreatDoor
