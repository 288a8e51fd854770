/- Lemmas for the row. -/
import Derived.Test.YtnmblfonmfjoeaaGreatDoorKc34
import Derived.Test.YtnmblfonmfjoeaaGreatDoorKc33
namespace Go.Proofs.YtnmblfonmfjoeaaGreatDoor
open Go.RowKit
set_option linter.unusedVariables false
def nopeB : ByteArray := ⟨#[110, 111, 112, 101]⟩
def otherB : ByteArray := ⟨#[111, 116, 104, 101, 114]⟩
structure GoodPs (pr : List ByteArray) (l : List Pr) : Prop where
 len : l.length ≤ 8
 name : ∀ q ∈ l, isNameL q.name.data.toList = true
 right : ∀ q ∈ l, rightGs 6 q.body = true
 few : ∀ q ∈ l, snodess q.body ≤ 60
 kn : ∀ q ∈ l, knGs glD loN pr q.body
theorem GoodPs.ok {gl : List ByteArray} {pr : List ByteArray} {l : List Pr} (h : GoodPs pr l) (hg : namesB 6 gl = true) : okPg ⟨gl, loN, l⟩ = true := by
 refine okPg_yes hg (show namesB 6 loN = true by decide) h.len (List.all_eq_true.2 fun q hq => ?_)
 unfold okPr fitGs
 rw [h.name q hq, h.right q hq, decide_eq_true (h.few q hq)]; rfl
theorem GoodPs.none {pr : List ByteArray} {l : List Pr} (h : GoodPs pr l) (hp : ∀ s ∈ pr, s ∈ pnames l) : unkR ⟨glD, loN, l⟩ = [] := by
 rw [unkR_yes (h.ok (by decide))]
 exact unkP_known fun q hq => knGs_mono hp q.body (h.kn q hq)
theorem pr_tot {q : Pr} (h1 : isNameL q.name.data.toList = true) (h2 : rightGs 6 q.body = true) (h3 : snodess q.body ≤ 60) : totPr q ≤ 60012 := by
 have := rights_tot q.body h2
 have := name_len h1
 have e : q.name.data.toList.length = q.name.size := rfl
 unfold totPr; omega
theorem prs_tot {l : List Pr} (h : ∀ q ∈ l, totPr q ≤ 60500) : totPrs l ≤ 60501 * l.length := by
 induction l with
 | nil => simp [totPrs]
 | cons q r ih =>
  rw [totPrs, List.length_cons]
  have := h q (by simp)
  have := ih fun x hx => h x (by simp [hx])
  omega
theorem drawn_parts (code : List UInt8) : ∃ q0 q1 rest ns, (drawnP code).procs = q0 :: q1 :: rest ∧ rest.length ≤ 2 ∧ (ns = [⟨#[112]⟩] ∨ ns = [⟨#[112]⟩, ⟨#[113]⟩] ∨ ns = [⟨#[112]⟩, ⟨#[113]⟩, ⟨#[114]⟩]) ∧ q0.name = mainB ∧ pnames (q1 :: rest) = ns ∧ ∀ q ∈ q0 :: q1 :: rest, GoodP ns q := by
 obtain ⟨ns, hns, hp, hq⟩ := drawn_procs code
 have hl : (drawnP code).procs.length = ns.length := by rw [← hp]; simp [pnames]
 generalize (drawnP code).procs = l at *
 match l with
 | [] => rcases hns with rfl | rfl | rfl <;> simp [nmD] at hl
 | [q] => rcases hns with rfl | rfl | rfl <;> simp [nmD] at hl
 | q0 :: q1 :: rest =>
  refine ⟨q0, q1, rest, ns.drop 1, rfl, ?_, ?_, ?_, ?_, hq⟩
  ·have h4 : ns.length ≤ 4 := by rcases hns with rfl | rfl | rfl <;> decide
   simp only [List.length_cons] at hl
   omega
  ·rcases hns with rfl | rfl | rfl
   ·exact .inl rfl
   ·exact .inr (.inl rfl)
   ·exact .inr (.inr rfl)
  ·have : (pnames (q0 :: q1 :: rest)).head? = some q0.name := rfl
   rw [hp] at this
   rcases hns with rfl | rfl | rfl <;> · injection this with this; exact this.symm
  ·have : (pnames (q0 :: q1 :: rest)).drop 1 = pnames (q1 :: rest) := rfl
   rw [← this, hp]
theorem good_of {ns : List ByteArray} {l : List Pr} (hl : l.length ≤ 8) (h : ∀ q ∈ l, GoodP ns q) : GoodPs ns l :=
 ⟨hl, fun q hq => (h q hq).name, fun q hq => (h q hq).right, fun q hq => by have := (h q hq).few; omega, fun q hq => (h q hq).kn⟩
section
variable {q0 q1 : Pr} {rest : List Pr} {ns : List ByteArray}
theorem faultR_of {p : Pg} (h1 : okPg p = true) (h2 : twiceS p.globals = false) (h3 : twiceS p.locks = false) (h4 : twiceS (pnames p.procs) = false) (h5 : unkR p = []) : faultR p = if hasS (pnames p.procs) mainB = false then 4 else 0 := by
 unfold faultR
 rw [h1, h2, h3, h4, h5]
 simp
theorem drawn_zero (hr : rest.length ≤ 2) (hns : ns = [⟨#[112]⟩] ∨ ns = [⟨#[112]⟩, ⟨#[113]⟩] ∨ ns = [⟨#[112]⟩, ⟨#[113]⟩, ⟨#[114]⟩]) (h0 : q0.name = mainB) (hp : pnames (q1 :: rest) = ns) (h : ∀ q ∈ q0 :: q1 :: rest, GoodP ns q) : unkR ⟨glD, loN, q0 :: q1 :: rest⟩ = [] ∧ faultR ⟨glD, loN, q0 :: q1 :: rest⟩ = 0 := by
 have hg := good_of (l := q0 :: q1 :: rest) (by simp; omega) h
 have hpn : pnames (q0 :: q1 :: rest) = mainB :: ns := by rw [← hp, ← h0]; rfl
 have hu := hg.none (fun s hs => by rw [hpn]; exact List.mem_cons_of_mem _ hs)
 refine ⟨hu, ?_⟩
 rw [faultR_of (p := ⟨glD, loN, q0 :: q1 :: rest⟩) (hg.ok (by decide)) (twice_no (show glD.Nodup by decide)) (twice_no (show loN.Nodup by decide)) (twice_no (by show (pnames (q0 :: q1 :: rest)).Nodup; rw [hpn]; rcases hns with rfl | rfl | rfl <;> decide)) hu]
 show (if hasS (pnames (q0 :: q1 :: rest)) mainB = false then (4 : Int) else 0) = 0
 rw [hpn, if_neg (by rw [has_iff.2 (by simp)]; decide)]
theorem drawn_sizes (hr : rest.length ≤ 2) (h : ∀ q ∈ q0 :: q1 :: rest, GoodP ns q) : totPg ⟨glD, loN, q0 :: q1 :: rest⟩ ≤ 1048576 ∧ totPg ⟨glD, loN, ⟨otherB, q0.body⟩ :: q1 :: rest⟩ ≤ 1048576 ∧ totPg ⟨glD ++ [(⟨#[120]⟩ : ByteArray)], loN, q0 :: q1 :: rest⟩ ≤ 1048576 ∧ totPg ⟨glD, loN, q0 :: ⟨q1.name, q1.body ++ [lockS nopeB]⟩ :: rest⟩ ≤ 1048576 := by
 have ht : ∀ q ∈ q0 :: q1 :: rest, totPr q ≤ 60012 := fun q hq => pr_tot (h q hq).name (h q hq).right (by have := (h q hq).few; omega)
 have t0 := ht q0 (by simp)
 have t1 := ht q1 (by simp)
 have hrs := prs_tot (l := rest) fun q hq => by have := ht q (by simp [hq]); omega
 have e0 : totPr (⟨otherB, q0.body⟩ : Pr) ≤ 60017 := by unfold totPr at t0 ⊢; show otherB.size + totGs q0.body ≤ _; have : otherB.size = 5 := rfl; omega
 have e1 : totPr (⟨q1.name, q1.body ++ [lockS nopeB]⟩ : Pr) ≤ 60100 := by
  unfold totPr at t1 ⊢
  show q1.name.size + totGs (q1.body ++ [lockS nopeB]) ≤ _
  have : totGs [lockS nopeB] ≤ 30 := by decide
  rw [totGs_append]; omega
 have g1 : totS glD = 8 := by decide
 have g2 : totS loN = 6 := by decide
 have g3 : totS (glD ++ [(⟨#[120]⟩ : ByteArray)]) = 10 := by decide
 refine ⟨?_, ?_, ?_, ?_⟩
 ·show totS glD + totS loN + totPrs (q0 :: q1 :: rest) ≤ _
  rw [totPrs, totPrs]; omega
 ·show totS glD + totS loN + totPrs (_ :: q1 :: rest) ≤ _
  rw [totPrs, totPrs]; omega
 ·show totS (glD ++ [(⟨#[120]⟩ : ByteArray)]) + totS loN + totPrs (q0 :: q1 :: rest) ≤ _
  rw [totPrs, totPrs]; omega
 ·show totS glD + totS loN + totPrs (q0 :: _ :: rest) ≤ _
  rw [totPrs, totPrs]; omega
end
def RetDp (w : World) (l : List Pr) (e : Ending) (w' : World) : Prop :=
 ∃ gb lb b0 pA pc, e = .returned (.agg #[.slice (some ⟨gb, 0, none⟩) 4 4, .slice (some ⟨lb, 0, none⟩) 3 3, .slice pA l.length pc]) ∧ l.length ≤ pc ∧ pc ≤ maxLen ∧ DrP w.heap.size w' gb lb b0 (.slice pA l.length pc) l ∧ Below w.heap.size w w'
set_option maxHeartbeats 800000 in
theorem spec_DrawProg (A : Option Addr) (c : Nat) (code : List UInt8) (w : World) (rd : Rd w 1 A code.length (bv code)) (hl : code.length ≤ 1048576) (hc : c ≤ maxLen) :
  Calls Tryz.prog 5 #[.slice A code.length c] w (RetDp w (drawnP code).procs) := by
 have RD := qh rd
 clear rd
 have HRet : Hid (∀ e w', (∃ gb lb b0 pA pc, e = .returned (.agg #[.slice (some ⟨gb, 0, none⟩) 4 4, .slice (some ⟨lb, 0, none⟩) 3 3, .slice pA (drawnP code).procs.length pc]) ∧ (drawnP code).procs.length ≤ pc ∧ pc ≤ maxLen ∧ DrP w.heap.size w' gb lb b0 (.slice pA (drawnP code).procs.length pc) (drawnP code).procs ∧ Below w.heap.size w w') → RetDp w (drawnP code).procs e w') := qh fun e w' h => h
 generalize hRR : RetDp w (drawnP code).procs = RR at *
 clear hRR
 have HP : Hid ((pgD code (curNew code)).1.procs = (drawnP code).procs) := qh rfl
 go_enter Tryz.func5, Tryz.ntmps5
 go_wp2_with fail
 refine (spec_l01New A c code _ (RD.out.alloc _) hl hc).mono ?_
 rintro e w1 ⟨p, rfl, hp, k1, b1⟩
 have K1 := qh k1
 have B1 : Hid (Below w.heap.size w w1) := qh (Below.trans zB (b1.mono (by simp)))
 have BX1 : Hid (w1.heap[w.heap.size]? = some (.cells #[.slice none 0 0, .slice none 0 0, .slice none 0 0] 27 (0, 0))) := qh ((b1.block w.heap.size (by simp)).trans (heap_alloc_new w _))
 have hpl := lt_of_block k1.at'
 have hp' : w.heap.size + 1 ≤ p := by simpa using hp
 have hz1 : w.heap.size < w1.heap.size := lt_of_block BX1.out
 have R1 := qh (RD.out.below B1.out)
 clear k1 b1 hp
 go_wp2_with fail
 refine (spec_l05Prog p A c code (curNew code) _ R1.out hl hc K1.out).mono ?_
 rintro e w2 ⟨gb, lb, b0, pA, pc, rfl, h1, h2, dp, k2, kp2⟩
 rw [HP.out] at h1 dp
 rw [HP.out]
 have DP := qh dp
 have BX2 : Hid (w2.heap[w.heap.size]? = some (.cells #[.slice none 0 0, .slice none 0 0, .slice none 0 0] 27 (0, 0))) := qh ((kp2.block w.heap.size hz1 (by omega)).trans BX1.out)
 have B2 : Hid (Below w.heap.size w w2) := qh (B1.out.trans (kp2.below (n := w.heap.size) (by omega) (fun b hb => by omega)))
 obtain ⟨⟨r0, r1, r2⟩, f0, f1, f2⟩ := cells3 BX2.out
 have hg1 := dp.h1
 have hg2 := dp.h2
 have hg3 := dp.h3
 clear dp k2 kp2
 generalize (drawnP code).procs = l at *
 go_wp2_with fail
 refine bodyPost_ret (v := .agg #[.slice (some ⟨gb, 0, none⟩) 4 4, .slice (some ⟨lb, 0, none⟩) 3 3, .slice pA l.length pc]) (by simp [results, Tryz.results5, go_sem, r0, r1, r2]) rfl ?_
 have ks : Keep (fun b => b ≠ w.heap.size) w2 (((w2.setCell ⟨w.heap.size, 0, none⟩ (.slice (some ⟨gb, 0, none⟩) 4 4)).setCell ⟨w.heap.size, 1, none⟩ (.slice (some ⟨lb, 0, none⟩) 3 3)).setCell ⟨w.heap.size, 2, none⟩ (.slice pA l.length pc)) := (((Keep.refl _ _).setCell (p := ⟨w.heap.size, 0, none⟩) (fun h => h rfl) _).setCell (p := ⟨w.heap.size, 1, none⟩) (fun h => h rfl) _).setCell (p := ⟨w.heap.size, 2, none⟩) (fun h => h rfl) _
 refine HRet.out _ _ ⟨gb, lb, b0, pA, pc, rfl, h1, h2, ⟨by omega, hg2, hg3, ?_, ?_, DP.out.hp.keep PrG.keepP ks (fun b hb _ _ => by omega)⟩, B2.out.trans (ks.below (n := w.heap.size) B2.out.size (fun b hb => by omega))⟩
 ·rw [ks.block gb (lt_of_block DP.out.hg) (by omega)]; exact DP.out.hg
 ·rw [ks.block lb (lt_of_block DP.out.hl) (by omega)]; exact DP.out.hl
theorem rd_block {w : World} {g n : Nat} {cs : Array Value} {T : TypeId} (h : w.heap[g]? = some (.cells cs T (0, 0))) (hn : cs.size = n) : Rd w 1 (some ⟨g, 0, none⟩) n cs.toList := by
 refine ⟨by simp [hn], fun _ => ⟨g, 0, rfl, fun j u hu => ?_⟩⟩
 rw [Lib.cell_of_heap h, Nat.zero_add]
 simpa using hu
theorem PrG.is {w : World} {G : Nat → Prop} {cells : List Value} {q : Pr} (h : PrG w G cells q) : ∃ x : V2, cells = x.cells ∧ PrIs w x q := by
 obtain ⟨x, e, ⟨a1, a2, a3, a4, a5, a6⟩, _⟩ := h
 exact ⟨x, e, a1, a2, a3, a4, a5, a6.any⟩
theorem prRow_cells {w : World} {A : Option Addr} {l : List Pr} {cs : List (List Value)} (hl : cs.length = l.length) (rd : Rd w 2 A l.length cs.flatten) (h : ∀ i (hi : i < l.length) (hi' : i < cs.length), ∃ x : V2, cs[i] = x.cells ∧ PrIs w x l[i]) : PrRow w A l := by
 obtain ⟨xs, hxl, hxs⟩ := list_of l.length (fun i (x : V2) => (∀ hi' : i < cs.length, cs[i] = x.cells) ∧ ∀ hi : i < l.length, PrIs w x l[i]) (fun i hi => by
  obtain ⟨x, e, hx⟩ := h i hi (by omega)
  exact ⟨x, fun _ => e, fun _ => hx⟩)
 refine ⟨xs, hxl, ?_, fun i hi hi' => (hxs i hi').2 hi⟩
 have e : cs.flatten = xs.flatMap V2.cells := by
  show cs.flatten = (xs.map V2.cells).flatten
  congr 1
  apply List.ext_getElem
  ·rw [List.length_map]; omega
  ·intro i h1 h2
   rw [List.getElem_map]
   exact (hxs i (by simpa using h2)).1 h1
 rw [← e, hxl]; exact rd
theorem grwP_row {w : World} {b0 c : Nat} {A : Option Addr} {l : List Pr} {Z : Nat → Prop} (h : GrwX PrG 40 2 b0 Z w (.slice A l.length c) l) : PrRow w A l := by
 obtain ⟨cs, G, h⟩ := h
 exact prRow_cells h.len h.ow.own.rd fun i hi hi' => (h.is i hi hi').is
theorem DrP.is {lo : Nat} {w : World} {gb lb b0 pc : Nat} {pA : Option Addr} {l : List Pr} (h : DrP lo w gb lb b0 (.slice pA l.length pc) l) (h1 : l.length ≤ pc) (h2 : pc ≤ maxLen) : PgIs w ⟨some ⟨gb, 0, none⟩, 4, some ⟨lb, 0, none⟩, 3, pA, pc⟩ ⟨glD, loN, l⟩ :=
 ⟨Nat.le_refl _, by simp [maxLen], rd_block h.hg rfl, by unfold maxLen; show ∀ s ∈ glD, s.size ≤ _; decide, Nat.le_refl _, by simp [maxLen], rd_block h.hl rfl, by unfold maxLen; show ∀ s ∈ loN, s.size ≤ _; decide, h1, h2, grwP_row h.hp⟩
end Go.Proofs.YtnmblfonmfjoeaaGreatDoor
