/- Several texts in one: FxF, FxM. -/
import Derived.Test.YtadcebdhgocmhaaKs46
import Derived.Test.YtadcebdhgocmhaaKs37
namespace Go.Proofs.Ytadcebdhgocmhaa
open Go.RowKit
set_option linter.unusedVariables false


def nopeB : ByteArray := ⟨#[110, 111, 112, 101]⟩
def otherB : ByteArray := ⟨#[111, 116, 104, 101, 114]⟩
/-- a list of procedures of which each is good -/
structure GoodPs (pr : List ByteArray) (l : List Pr) : Prop where
  len : l.length ≤ 8
  name : ∀ q ∈ l, isNameL q.name.data.toList = true
  right : ∀ q ∈ l, rightGs 6 q.body = true
  few : ∀ q ∈ l, snodess q.body ≤ 60
  kn : ∀ q ∈ l, knGs glD loN pr q.body
theorem GoodPs.ok {gl : List ByteArray} {pr : List ByteArray} {l : List Pr} (h : GoodPs pr l) (hg : namesB 6 gl = true) : okPg ⟨gl, loN, l⟩ = true := by
  refine okPg_yes hg (show namesB 6 loN = true by decide) h.len (List.all_eq_true.2 fun q hq => ?_)
  unfold okPr fitGs
  rw [h.name q hq, h.right q hq, decide_eq_true (h.few q hq)]; rfl
theorem GoodPs.none {pr : List ByteArray} {l : List Pr} (h : GoodPs pr l) (hp : ∀ s ∈ pr, s ∈ pnames l) : unkR ⟨glD, loN, l⟩ = [] := by
  rw [unkR_yes (h.ok (by decide))]
  exact unkP_known fun q hq => knGs_mono hp q.body (h.kn q hq)
theorem pr_tot {q : Pr} (h1 : isNameL q.name.data.toList = true) (h2 : rightGs 6 q.body = true) (h3 : snodess q.body ≤ 60) : totPr q ≤ 60012 := by
  have := rights_tot q.body h2
  have := name_len h1
  have e : q.name.data.toList.length = q.name.size := rfl
  unfold totPr; omega
theorem prs_tot {l : List Pr} (h : ∀ q ∈ l, totPr q ≤ 60500) : totPrs l ≤ 60501 * l.length := by
  induction l with
  | nil => simp [totPrs]
  | cons q r ih =>
    rw [totPrs, List.length_cons]
    have := h q (by simp)
    have := ih fun x hx => h x (by simp [hx])
    omega
/-- a drawn program's parts -/
theorem drawn_parts (code : List UInt8) : ∃ q0 q1 rest ns, (drawnP code).procs = q0 :: q1 :: rest ∧ rest.length ≤ 2 ∧ (ns = [⟨#[112]⟩] ∨ ns = [⟨#[112]⟩, ⟨#[113]⟩] ∨ ns = [⟨#[112]⟩, ⟨#[113]⟩, ⟨#[114]⟩]) ∧ q0.name = mainB ∧ pnames (q1 :: rest) = ns ∧ ∀ q ∈ q0 :: q1 :: rest, GoodP ns q := by
  obtain ⟨ns, hns, hp, hq⟩ := drawn_procs code
  have hl : (drawnP code).procs.length = ns.length := by rw [← hp]; simp [pnames]
  generalize (drawnP code).procs = l at *
  match l with
  | [] => rcases hns with rfl | rfl | rfl <;> simp [nmD] at hl
  | [q] => rcases hns with rfl | rfl | rfl <;> simp [nmD] at hl
  | q0 :: q1 :: rest =>
    refine ⟨q0, q1, rest, ns.drop 1, rfl, ?_, ?_, ?_, ?_, hq⟩
    · have h4 : ns.length ≤ 4 := by rcases hns with rfl | rfl | rfl <;> decide
      simp only [List.length_cons] at hl
      omega
    · rcases hns with rfl | rfl | rfl
      · exact .inl rfl
      · exact .inr (.inl rfl)
      · exact .inr (.inr rfl)
    · have : (pnames (q0 :: q1 :: rest)).head? = some q0.name := rfl
      rw [hp] at this
      rcases hns with rfl | rfl | rfl <;> · injection this with this; exact this.symm
    · have : (pnames (q0 :: q1 :: rest)).drop 1 = pnames (q1 :: rest) := rfl
      rw [← this, hp]
theorem good_of {ns : List ByteArray} {l : List Pr} (hl : l.length ≤ 8) (h : ∀ q ∈ l, GoodP ns q) : GoodPs ns l :=
  ⟨hl, fun q hq => (h q hq).name, fun q hq => (h q hq).right, fun q hq => by have := (h q hq).few; omega, fun q hq => (h q hq).kn⟩
section
variable {q0 q1 : Pr} {rest : List Pr} {ns : List ByteArray}
theorem faultR_of {p : Pg} (h1 : okPg p = true) (h2 : twiceS p.globals = false) (h3 : twiceS p.locks = false) (h4 : twiceS (pnames p.procs) = false) (h5 : unkR p = []) : faultR p = if hasS (pnames p.procs) mainB = false then 4 else 0 := by
  unfold faultR
  rw [h1, h2, h3, h4, h5]
  simp
theorem drawn_zero (hr : rest.length ≤ 2) (hns : ns = [⟨#[112]⟩] ∨ ns = [⟨#[112]⟩, ⟨#[113]⟩] ∨ ns = [⟨#[112]⟩, ⟨#[113]⟩, ⟨#[114]⟩]) (h0 : q0.name = mainB) (hp : pnames (q1 :: rest) = ns) (h : ∀ q ∈ q0 :: q1 :: rest, GoodP ns q) : unkR ⟨glD, loN, q0 :: q1 :: rest⟩ = [] ∧ faultR ⟨glD, loN, q0 :: q1 :: rest⟩ = 0 := by
  have hg := good_of (l := q0 :: q1 :: rest) (by simp; omega) h
  have hpn : pnames (q0 :: q1 :: rest) = mainB :: ns := by rw [← hp, ← h0]; rfl
  have hu := hg.none (fun s hs => by rw [hpn]; exact List.mem_cons_of_mem _ hs)
  refine ⟨hu, ?_⟩
  rw [faultR_of (p := ⟨glD, loN, q0 :: q1 :: rest⟩) (hg.ok (by decide)) (twice_no (show glD.Nodup by decide)) (twice_no (show loN.Nodup by decide)) (twice_no (by show (pnames (q0 :: q1 :: rest)).Nodup; rw [hpn]; rcases hns with rfl | rfl | rfl <;> decide)) hu]
  show (if hasS (pnames (q0 :: q1 :: rest)) mainB = false then (4 : Int) else 0) = 0
  rw [hpn, if_neg (by rw [has_iff.2 (by simp)]; decide)]
theorem drawn_main (hr : rest.length ≤ 2) (hns : ns = [⟨#[112]⟩] ∨ ns = [⟨#[112]⟩, ⟨#[113]⟩] ∨ ns = [⟨#[112]⟩, ⟨#[113]⟩, ⟨#[114]⟩]) (hp : pnames (q1 :: rest) = ns) (h : ∀ q ∈ q0 :: q1 :: rest, GoodP ns q) : faultR ⟨glD, loN, ⟨otherB, q0.body⟩ :: q1 :: rest⟩ = 4 := by
  have h' : ∀ q ∈ (⟨otherB, q0.body⟩ : Pr) :: q1 :: rest, GoodP ns q := fun q hq => by
    rcases List.mem_cons.1 hq with rfl | hq
    · have := h q0 (by simp)
      exact ⟨show isNameL otherB.data.toList = true by decide, this.right, this.few, this.kn⟩
    · exact h q (List.mem_cons_of_mem _ hq)
  have hg := good_of (by simp; omega) h'
  have hpn : pnames ((⟨otherB, q0.body⟩ : Pr) :: q1 :: rest) = otherB :: ns := by rw [← hp]; rfl
  have hu := hg.none (fun s hs => by rw [hpn]; exact List.mem_cons_of_mem _ hs)
  rw [faultR_of (p := ⟨glD, loN, ⟨otherB, q0.body⟩ :: q1 :: rest⟩) (hg.ok (by decide)) (twice_no (show glD.Nodup by decide)) (twice_no (show loN.Nodup by decide)) (twice_no (by show (pnames ((⟨otherB, q0.body⟩ : Pr) :: q1 :: rest)).Nodup; rw [hpn]; rcases hns with rfl | rfl | rfl <;> decide)) hu]
  show (if hasS (pnames ((⟨otherB, q0.body⟩ : Pr) :: q1 :: rest)) mainB = false then (4 : Int) else 0) = 4
  rw [hpn, if_pos (by rcases hns with rfl | rfl | rfl <;> decide)]
theorem drawn_twice (hr : rest.length ≤ 2) (h : ∀ q ∈ q0 :: q1 :: rest, GoodP ns q) : faultR ⟨glD ++ [(⟨#[120]⟩ : ByteArray)], loN, q0 :: q1 :: rest⟩ = 2 := by
  have hg := good_of (l := q0 :: q1 :: rest) (by simp; omega) h
  unfold faultR
  rw [hg.ok (gl := glD ++ [(⟨#[120]⟩ : ByteArray)]) (by decide), if_neg (by decide), if_pos (twice_yes (show ¬ (glD ++ [(⟨#[120]⟩ : ByteArray)]).Nodup by decide))]
theorem nope_there (hr : rest.length ≤ 2) : unkR ⟨glD, loN, q0 :: ⟨q1.name, q1.body ++ [lockS nopeB]⟩ :: rest⟩ = [] ∨ hasS (unkR ⟨glD, loN, q0 :: ⟨q1.name, q1.body ++ [lockS nopeB]⟩ :: rest⟩) nopeB = true := by
  cases hok : okPg ⟨glD, loN, q0 :: ⟨q1.name, q1.body ++ [lockS nopeB]⟩ :: rest⟩ with
  | false => exact .inl (unkR_no hok)
  | true =>
    refine .inr (has_iff.2 ?_)
    rw [unkR_yes hok]
    refine unkP_in (l1 := [q0]) (q := ⟨q1.name, q1.body ++ [lockS nopeB]⟩) (l2 := rest) fun acc => ?_
    show nopeB ∈ unkGs _ _ _ acc (q1.body ++ [lockS nopeB])
    rw [unkGs_append, unkGs, unkGs]
    unfold lockS
    rw [unkG_mk]
    refine unkGs_keeps (unkGs_keeps (readK_keeps ?_) _) _
    unfold headK
    rw [if_neg (by decide), if_pos (by decide)]
    unfold addUnk
    rw [if_neg (show ¬ hasS loN nopeB = true by decide)]
    unfold addOnceP
    split
    · exact has_iff.1 ‹_›
    · simp
/-- the program with one more statement: no name lacks, and the fault is another; or that name lacks, and that is the fault -/
theorem nope_fault (hr : rest.length ≤ 2) (hns : ns = [⟨#[112]⟩] ∨ ns = [⟨#[112]⟩, ⟨#[113]⟩] ∨ ns = [⟨#[112]⟩, ⟨#[113]⟩, ⟨#[114]⟩]) (h0 : q0.name = mainB) (hp : pnames (q1 :: rest) = ns) :
    (unkR ⟨glD, loN, q0 :: ⟨q1.name, q1.body ++ [lockS nopeB]⟩ :: rest⟩ = [] ∧ faultR ⟨glD, loN, q0 :: ⟨q1.name, q1.body ++ [lockS nopeB]⟩ :: rest⟩ ≠ 3) ∨
    (0 < (unkR ⟨glD, loN, q0 :: ⟨q1.name, q1.body ++ [lockS nopeB]⟩ :: rest⟩).length ∧ hasS (unkR ⟨glD, loN, q0 :: ⟨q1.name, q1.body ++ [lockS nopeB]⟩ :: rest⟩) nopeB = true ∧ faultR ⟨glD, loN, q0 :: ⟨q1.name, q1.body ++ [lockS nopeB]⟩ :: rest⟩ = 3) := by
  have hpn : pnames (q0 :: (⟨q1.name, q1.body ++ [lockS nopeB]⟩ : Pr) :: rest) = mainB :: ns := by rw [← hp, ← h0]; rfl
  rcases nope_there (q0 := q0) (q1 := q1) hr with h | h
  · left
    refine ⟨h, ?_⟩
    unfold faultR
    rw [h]
    repeat' split
    all_goals first | omega | simp_all
  · right
    have hl : 0 < (unkR ⟨glD, loN, q0 :: ⟨q1.name, q1.body ++ [lockS nopeB]⟩ :: rest⟩).length := List.length_pos_of_mem (has_iff.1 h)
    refine ⟨hl, h, ?_⟩
    have hok : okPg ⟨glD, loN, q0 :: ⟨q1.name, q1.body ++ [lockS nopeB]⟩ :: rest⟩ = true := by
      cases hk : okPg ⟨glD, loN, q0 :: ⟨q1.name, q1.body ++ [lockS nopeB]⟩ :: rest⟩ with
      | true => rfl
      | false => rw [unkR_no hk] at hl; simp at hl
    unfold faultR
    rw [hok, if_neg (by decide), if_neg (by rw [twice_no (show glD.Nodup by decide)]; decide), if_neg (by rw [twice_no (show loN.Nodup by decide)]; decide), if_neg, if_pos hl]
    show ¬ twiceS (pnames (q0 :: (⟨q1.name, q1.body ++ [lockS nopeB]⟩ : Pr) :: rest)) = true
    rw [hpn, twice_no (by rcases hns with rfl | rfl | rfl <;> decide)]; decide
theorem drawn_sizes (hr : rest.length ≤ 2) (h : ∀ q ∈ q0 :: q1 :: rest, GoodP ns q) : totPg ⟨glD, loN, q0 :: q1 :: rest⟩ ≤ 1048576 ∧ totPg ⟨glD, loN, ⟨otherB, q0.body⟩ :: q1 :: rest⟩ ≤ 1048576 ∧ totPg ⟨glD ++ [(⟨#[120]⟩ : ByteArray)], loN, q0 :: q1 :: rest⟩ ≤ 1048576 ∧ totPg ⟨glD, loN, q0 :: ⟨q1.name, q1.body ++ [lockS nopeB]⟩ :: rest⟩ ≤ 1048576 := by
  have ht : ∀ q ∈ q0 :: q1 :: rest, totPr q ≤ 60012 := fun q hq => pr_tot (h q hq).name (h q hq).right (by have := (h q hq).few; omega)
  have t0 := ht q0 (by simp)
  have t1 := ht q1 (by simp)
  have hrs := prs_tot (l := rest) fun q hq => by have := ht q (by simp [hq]); omega
  have e0 : totPr (⟨otherB, q0.body⟩ : Pr) ≤ 60017 := by unfold totPr at t0 ⊢; show otherB.size + totGs q0.body ≤ _; have : otherB.size = 5 := rfl; omega
  have e1 : totPr (⟨q1.name, q1.body ++ [lockS nopeB]⟩ : Pr) ≤ 60100 := by
    unfold totPr at t1 ⊢
    show q1.name.size + totGs (q1.body ++ [lockS nopeB]) ≤ _
    have : totGs [lockS nopeB] ≤ 30 := by decide
    rw [totGs_append]; omega
  have g1 : totS glD = 8 := by decide
  have g2 : totS loN = 6 := by decide
  have g3 : totS (glD ++ [(⟨#[120]⟩ : ByteArray)]) = 10 := by decide
  refine ⟨?_, ?_, ?_, ?_⟩
  · show totS glD + totS loN + totPrs (q0 :: q1 :: rest) ≤ _
    rw [totPrs, totPrs]; omega
  · show totS glD + totS loN + totPrs (_ :: q1 :: rest) ≤ _
    rw [totPrs, totPrs]; omega
  · show totS (glD ++ [(⟨#[120]⟩ : ByteArray)]) + totS loN + totPrs (q0 :: q1 :: rest) ≤ _
    rw [totPrs, totPrs]; omega
  · show totS glD + totS loN + totPrs (q0 :: _ :: rest) ≤ _
    rw [totPrs, totPrs]; omega
end

def RetDp (w : World) (l : List Pr) (e : Ending) (w' : World) : Prop :=
  ∃ gb lb b0 pA pc, e = .returned (.agg #[.slice (some ⟨gb, 0, none⟩) 4 4, .slice (some ⟨lb, 0, none⟩) 3 3, .slice pA l.length pc]) ∧ l.length ≤ pc ∧ pc ≤ maxLen ∧ DrP w.heap.size w' gb lb b0 (.slice pA l.length pc) l ∧ Below w.heap.size w w'
set_option maxHeartbeats 800000 in
theorem spec_DrawProg (A : Option Addr) (c : Nat) (code : List UInt8) (w : World) (rd : Rd w 1 A code.length (bv code)) (hl : code.length ≤ 1048576) (hc : c ≤ maxLen) :
    Calls Try.prog 6 #[.slice A code.length c] w (RetDp w (drawnP code).procs) := by
  have RD := Lib.hid rd
  clear rd
  have HRet : Hid (∀ e w', (∃ gb lb b0 pA pc, e = .returned (.agg #[.slice (some ⟨gb, 0, none⟩) 4 4, .slice (some ⟨lb, 0, none⟩) 3 3, .slice pA (drawnP code).procs.length pc]) ∧ (drawnP code).procs.length ≤ pc ∧ pc ≤ maxLen ∧ DrP w.heap.size w' gb lb b0 (.slice pA (drawnP code).procs.length pc) (drawnP code).procs ∧ Below w.heap.size w w') → RetDp w (drawnP code).procs e w') := Lib.hid fun e w' h => h
  generalize hRR : RetDp w (drawnP code).procs = RR at *
  clear hRR
  have HP : Hid ((pgD code (curNew code)).1.procs = (drawnP code).procs) := Lib.hid rfl
  go_enter Try.func6, Try.ntmps6
  go_wp2_with fail
  refine (spec_l01New A c code _ (RD.out.alloc _) hl hc).mono ?_
  rintro e w1 ⟨p, rfl, hp, k1, b1⟩
  have K1 := Lib.hid k1
  have B1 : Hid (Below w.heap.size w w1) := Lib.hid (Below.trans (by repeat' (first | exact Below.refl _ _ | exact Nat.le_refl _ | (refine Below.alloc ?_ ?_ _) | (refine Below.setCell ?_ ?_ _) | (refine Below.drew ?_) | (refine below_drewN ?_ _) | assumption | (simp; done) | (simp; omega))) (b1.mono (by simp)))
  have BX1 : Hid (w1.heap[w.heap.size]? = some (.cells #[.slice none 0 0, .slice none 0 0, .slice none 0 0] 27 (0, 0))) := Lib.hid ((b1.block w.heap.size (by simp)).trans (heap_alloc_new w _))
  have hpl := lt_of_block k1.at'
  have hp' : w.heap.size + 1 ≤ p := by simpa using hp
  have hz1 : w.heap.size < w1.heap.size := lt_of_block BX1.out
  have R1 := Lib.hid (RD.out.below B1.out)
  clear k1 b1 hp
  go_wp2_with fail
  refine (spec_l05Prog p A c code (curNew code) _ R1.out hl hc K1.out).mono ?_
  rintro e w2 ⟨gb, lb, b0, pA, pc, rfl, h1, h2, dp, k2, kp2⟩
  rw [HP.out] at h1 dp
  rw [HP.out]
  have DP := Lib.hid dp
  have BX2 : Hid (w2.heap[w.heap.size]? = some (.cells #[.slice none 0 0, .slice none 0 0, .slice none 0 0] 27 (0, 0))) := Lib.hid ((kp2.block w.heap.size hz1 (by omega)).trans BX1.out)
  have B2 : Hid (Below w.heap.size w w2) := Lib.hid (B1.out.trans (kp2.below (n := w.heap.size) (by omega) (fun b hb => by omega)))
  obtain ⟨⟨r0, r1, r2⟩, f0, f1, f2⟩ := cells3 BX2.out
  have hg1 := dp.h1
  have hg2 := dp.h2
  have hg3 := dp.h3
  clear dp k2 kp2
  generalize (drawnP code).procs = l at *
  go_wp2_with fail
  refine bodyPost_ret (v := .agg #[.slice (some ⟨gb, 0, none⟩) 4 4, .slice (some ⟨lb, 0, none⟩) 3 3, .slice pA l.length pc]) (by simp [results, Try.results6, go_sem, r0, r1, r2]) rfl ?_
  have ks : Keep (fun b => b ≠ w.heap.size) w2 (((w2.setCell ⟨w.heap.size, 0, none⟩ (.slice (some ⟨gb, 0, none⟩) 4 4)).setCell ⟨w.heap.size, 1, none⟩ (.slice (some ⟨lb, 0, none⟩) 3 3)).setCell ⟨w.heap.size, 2, none⟩ (.slice pA l.length pc)) := (((Keep.refl _ _).setCell (p := ⟨w.heap.size, 0, none⟩) (fun h => h rfl) _).setCell (p := ⟨w.heap.size, 1, none⟩) (fun h => h rfl) _).setCell (p := ⟨w.heap.size, 2, none⟩) (fun h => h rfl) _
  refine HRet.out _ _ ⟨gb, lb, b0, pA, pc, rfl, h1, h2, ⟨by omega, hg2, hg3, ?_, ?_, DP.out.hp.keep PrG.keepP ks (fun b hb _ _ => by omega)⟩, B2.out.trans (ks.below (n := w.heap.size) B2.out.size (fun b hb => by omega))⟩
  · rw [ks.block gb (lt_of_block DP.out.hg) (by omega)]; exact DP.out.hg
  · rw [ks.block lb (lt_of_block DP.out.hl) (by omega)]; exact DP.out.hl
theorem rd_block {w : World} {g n : Nat} {cs : Array Value} {T : TypeId} (h : w.heap[g]? = some (.cells cs T (0, 0))) (hn : cs.size = n) : Rd w 1 (some ⟨g, 0, none⟩) n cs.toList := by
  refine ⟨by simp [hn], fun _ => ⟨g, 0, rfl, fun j u hu => ?_⟩⟩
  rw [Lib.cell_of_heap h, Nat.zero_add]
  simpa using hu
theorem PrG.is {w : World} {G : Nat → Prop} {cells : List Value} {q : Pr} (h : PrG w G cells q) : ∃ x : V2, cells = x.cells ∧ PrIs w x q := by
  obtain ⟨x, e, ⟨a1, a2, a3, a4, a5, a6⟩, _⟩ := h
  exact ⟨x, e, a1, a2, a3, a4, a5, a6.any⟩
/-- a row of procedures read off its cells -/
theorem prRow_cells {w : World} {A : Option Addr} {l : List Pr} {cs : List (List Value)} (hl : cs.length = l.length) (rd : Rd w 2 A l.length cs.flatten) (h : ∀ i (hi : i < l.length) (hi' : i < cs.length), ∃ x : V2, cs[i] = x.cells ∧ PrIs w x l[i]) : PrRow w A l := by
  obtain ⟨xs, hxl, hxs⟩ := list_of l.length (fun i (x : V2) => (∀ hi' : i < cs.length, cs[i] = x.cells) ∧ ∀ hi : i < l.length, PrIs w x l[i]) (fun i hi => by
    obtain ⟨x, e, hx⟩ := h i hi (by omega)
    exact ⟨x, fun _ => e, fun _ => hx⟩)
  refine ⟨xs, hxl, ?_, fun i hi hi' => (hxs i hi').2 hi⟩
  have e : cs.flatten = xs.flatMap V2.cells := by
    show cs.flatten = (xs.map V2.cells).flatten
    congr 1
    apply List.ext_getElem
    · rw [List.length_map]; omega
    · intro i h1 h2
      rw [List.getElem_map]
      exact (hxs i (by simpa using h2)).1 h1
  rw [← e, hxl]; exact rd
theorem grwP_row {w : World} {b0 c : Nat} {A : Option Addr} {l : List Pr} {Z : Nat → Prop} (h : GrwX PrG 31 2 b0 Z w (.slice A l.length c) l) : PrRow w A l := by
  obtain ⟨cs, G, h⟩ := h
  exact prRow_cells h.len h.ow.own.rd fun i hi hi' => (h.is i hi hi').is
theorem DrP.is {lo : Nat} {w : World} {gb lb b0 pc : Nat} {pA : Option Addr} {l : List Pr} (h : DrP lo w gb lb b0 (.slice pA l.length pc) l) (h1 : l.length ≤ pc) (h2 : pc ≤ maxLen) : PgIs w ⟨some ⟨gb, 0, none⟩, 4, some ⟨lb, 0, none⟩, 3, pA, pc⟩ ⟨glD, loN, l⟩ :=
  ⟨Nat.le_refl _, by simp [maxLen], rd_block h.hg rfl, by unfold maxLen; show ∀ s ∈ glD, s.size ≤ _; decide, Nat.le_refl _, by simp [maxLen], rd_block h.hl rfl, by unfold maxLen; show ∀ s ∈ loN, s.size ≤ _; decide, h1, h2, grwP_row h.hp⟩
/-- one more statement behind a row, which holds no memory -/
theorem row_app {w w2 : World} {F : Nat → Prop} {A : Option Addr} {c : Nat} {l : List St} {xs : List V8} {G : Nat → Nat → Prop} {v' : Value} {x : V8} {g : St} {w0 : World}
    (hl : xs.length = l.length) (r : RowO w F 8 A l.length (xs.flatMap V8.cells) G) (hx : ∀ i (h : i < l.length) (h' : i < xs.length), StO w (G i) xs[i] l[i]) (hF : ∀ b, F b → b < w.heap.size)
    (hg : ∀ w', StO w' (fun _ => False) x g) (own3 : Own w0 w2 36 8 v' (l.length + 1) (xs.flatMap V8.cells ++ x.cells)) (hk : ∀ b, F b → (Value.slice A l.length c).ownBlock ≠ some b → w2.heap[b]? = w.heap[b]?) (hlies : v'.ownBlock = (Value.slice A l.length c).ownBlock ∨ ∃ q, v'.ownBlock = some q ∧ w.heap.size ≤ q) :
    ∃ A' c', v' = .slice A' (l.length + 1) c' ∧ l.length + 1 ≤ c' ∧ c' ≤ maxLen ∧ StRowO w2 (fun b => F b ∨ v'.ownBlock = some b) A' (l ++ [g]) := by
  obtain ⟨A', c', e, hc⟩ := own3.slice
  subst e
  refine ⟨A', c', rfl, hc, own_cap' own3, ?_⟩
  have hlen : (l ++ [g]).length = l.length + 1 := by simp
  have hnv : ∀ i b, i < l.length → G i b → (Value.slice A l.length c).ownBlock ≠ some b := fun i b hi hb e => by
    rcases A with _ | ⟨b', off', _ | _⟩
    · cases e
    · injection e with e
      obtain ⟨b2, off2, _, _, e2, _, _, hno⟩ := r.2.1 (by omega)
      injection e2 with e2
      injection e2 with e2 _
      exact hno i hi (by rw [← e2, show b' = b from e]; exact hb)
    · injection e with e
      obtain ⟨b2, off2, _, _, e2, _⟩ := r.2.1 (by omega)
      cases e2
  have hnv' : ∀ i b, i < l.length → G i b → (Value.slice A' (l.length + 1) c').ownBlock ≠ some b := fun i b hi hb e => by
    rcases hlies with h1 | ⟨q, h1, h2⟩
    · exact hnv i b hi hb (h1 ▸ e)
    · rw [h1] at e; injection e with e
      have := hF b (r.2.2.1 i b hi hb); omega
  refine stRowO_of (xs := xs ++ [x]) (G := fun i b => if i < l.length then G i b else False) (by simp [hl]) ⟨?_, fun hn => ?_, fun i b hi hb => ?_, fun i j b hi hj hne h1 h2 => ?_⟩ (fun i hi hi' => ?_)
  · rw [hlen, List.flatMap_append]
    have e1 : [x].flatMap V8.cells = x.cells := by simp
    rw [e1]
    exact own3.rd
  · rcases own3.1.2 with ⟨h1, h2⟩ | ⟨q, cap, cur, h1, hb, hg', _⟩
    · omega
    · injection h1 with h1 h2
      subst h1
      refine ⟨q, 0, cur, _, rfl, .inr rfl, hg', fun i hi hb => ?_⟩
      by_cases ei : i < l.length
      · simp only [ei, if_true] at hb
        exact hnv' i q ei hb rfl
      · simp only [ei, if_false] at hb
  · by_cases ei : i < l.length
    · simp only [ei, if_true] at hb
      exact .inl (r.2.2.1 i b ei hb)
    · simp only [ei, if_false] at hb
  · by_cases ei : i < l.length
    · by_cases ej : j < l.length
      · simp only [ei, ej, if_true] at h1 h2; exact r.2.2.2 i j b ei ej hne h1 h2
      · simp only [ej, if_false] at h2
    · simp only [ei, if_false] at h1
  · rw [hlen] at hi
    by_cases ei : i < l.length
    · have e2 : i < xs.length := by omega
      simp only [ei, if_true]
      rw [List.getElem_append_left e2, List.getElem_append_left ei]
      exact (hx i ei e2).keep fun b q => hk b (r.2.2.1 i b ei q) (hnv i b ei q)
    · have e2 : i = l.length := by omega
      subst e2
      simp only [Nat.lt_irrefl, if_false]
      have e3 : (xs ++ [x])[l.length] = x := by simp [← hl]
      have e4 : (l ++ [g])[l.length] = g := by simp
      rw [e3, e4]
      exact hg _
/-- the second procedure has one statement more -/
theorem nope_row {w w2 w0 : World} {b0 pc pb : Nat} {Z : Nat → Prop} {procs : List Pr} {cs : List (List Value)} {G : Nat → Nat → Prop} (hat : GrwAt PrG 31 2 b0 Z w (.slice (some ⟨pb, 0, none⟩) procs.length pc) procs cs G) (h1 : 1 < procs.length) (h1' : 1 < cs.length) {x : V2} (hx : cs[1] = x.cells) {xs : List V8} {GB : Nat → Nat → Prop}
    (hxl : xs.length = procs[1].body.length) (r : RowO w (G 1) 8 x.A procs[1].body.length (xs.flatMap V8.cells) GB) (hxs : ∀ i (h : i < procs[1].body.length) (h' : i < xs.length), StO w (GB i) xs[i] procs[1].body[i]) {v' : Value} {y : V8} {g : St} (hg : ∀ w', StO w' (fun _ => False) y g)
    (own3 : Own w0 w2 36 8 v' (procs[1].body.length + 1) (xs.flatMap V8.cells ++ y.cells)) (hlies : v'.ownBlock = (Value.slice x.A procs[1].body.length x.c).ownBlock ∨ ∃ q, v'.ownBlock = some q ∧ w.heap.size ≤ q)
    (hkeep : ∀ b, b < w.heap.size → b ≠ pb → (Value.slice x.A procs[1].body.length x.c).ownBlock ≠ some b → w2.heap[b]? = w.heap[b]?) (hpb : ∀ j, j ≠ 3 → w2.cell? ⟨pb, j, none⟩ = w.cell? ⟨pb, j, none⟩) (hp3 : w2.cell? ⟨pb, 3, none⟩ = some v') :
    PrRow w2 (some ⟨pb, 0, none⟩) (procs.set 1 ⟨procs[1].name, procs[1].body ++ [g]⟩) := by
  have hcl := hat.len
  obtain ⟨x', ex, ⟨p1, p2, p3, p4, p5, p6⟩, hcap⟩ := hat.is 1 h1 h1'
  have exx : x' = x := by
    rw [hx] at ex
    simp only [V2.cells, List.cons.injEq, and_true] at ex
    obtain ⟨e1, e2⟩ := ex
    injection e1 with e1
    injection e2 with e2 e3 e4
    obtain ⟨a, b, c, d⟩ := x
    obtain ⟨a', b', c', d'⟩ := x'
    simp only at e1 e2 e3 e4
    subst e1 e2 e3 e4
    rfl
  subst exx
  have hmem := hat.mem
  have hpbn : ∀ i b, i < procs.length → G i b → b ≠ pb := fun i b hi hb e => (hmem i b hi hb).2.2.1 (by rw [e]; rfl)
  obtain ⟨A', c', e', hc1, hc2, hrow⟩ := row_app (c := x'.c) hxl r hxs (fun b hb => (hmem 1 b h1 hb).2.1) hg own3 (fun b hb hne => hkeep b (hmem 1 b h1 hb).2.1 (hpbn 1 b h1 hb) hne) hlies
  subst e'
  have hbody : ∀ i b, i < procs.length → i ≠ 1 → G i b → (Value.slice x'.A procs[1].body.length x'.c).ownBlock ≠ some b := fun i b hi hne hb e => by
    rcases hcap with ⟨e1, _, _⟩ | ⟨q, cur, e1, hF, _⟩
    · rw [e1] at e; cases e
    · rw [e1] at e
      injection e with e
      exact hat.apart i 1 b hi h1 hne hb (by rw [← show q = b from e]; exact hF)
  have hset : (cs.set 1 (cs[1].set 1 (Value.slice A' (procs[1].body.length + 1) c'))).flatten = cs.flatten.set (1 * 2 + 1) (Value.slice A' (procs[1].body.length + 1) c') := (flat_setG _ (by decide) cs 1 h1' hat.size).symm
  refine prRow_cells (cs := cs.set 1 (cs[1].set 1 (Value.slice A' (procs[1].body.length + 1) c'))) (by simp [hcl]) ?_ (fun i hi hi' => ?_)
  · rw [hset, List.length_set]
    have rd := hat.ow.own.rd
    refine ⟨by rw [List.length_set]; exact rd.1, fun hn => ⟨pb, 0, rfl, fun j u hu => ?_⟩⟩
    obtain ⟨b', off', eb, hc⟩ := rd.2 hn
    injection eb with eb
    injection eb with eb1 eb2
    subst eb1 eb2
    rw [List.getElem?_set] at hu
    split at hu
    · rename_i h3
      have : j = 3 := by omega
      subst this
      split at hu
      · injection hu with hu; rw [← hu]; exact hp3
      · cases hu
    · rename_i h3
      rw [Nat.zero_add, hpb j (by omega)]
      have := hc j u hu
      rwa [Nat.zero_add] at this
  · by_cases e : i = 1
    · subst e
      refine ⟨⟨x'.s, A', procs[1].body.length + 1, c'⟩, ?_, ?_⟩
      · rw [List.getElem_set_self, hx]; rfl
      · rw [List.getElem_set_self]
        exact ⟨p1, by show _ = (procs[1].body ++ [g]).length; simp, p3, by show (procs[1].body ++ [g]).length ≤ _; simpa using hc1, hc2, hrow.any⟩
    · rw [List.getElem_set_ne (Ne.symm e), List.getElem_set_ne (Ne.symm e)]
      have hi2 : i < procs.length := by simpa using hi
      exact (PrG.keepP _ _ _ _ _ (hat.is i hi2 (by omega)) fun b hb => hkeep b (hmem i b hi2 hb).2.1 (hpbn i b hi2 hb) (hbody i b hi2 e hb)).is
/-- one global more -/
theorem twice_is {lo : Nat} {w w2 w0 : World} {gb lb b0 pc : Nat} {pA : Option Addr} {l : List Pr} {v' : Value} {x : ByteArray} (dp : DrP lo w gb lb b0 (.slice pA l.length pc) l) (h1 : l.length ≤ pc) (h2 : pc ≤ maxLen) (hx : x.size ≤ maxLen) (own3 : Own w0 w2 9 1 v' 5 (glA.toList ++ [.string x])) (hz : w.heap.size ≤ w2.heap.size) (hkeep : ∀ b, b < w.heap.size → b ≠ gb → w2.heap[b]? = w.heap[b]?) :
    ∃ A' c', v' = .slice A' 5 c' ∧ PgIs w2 ⟨A', c', some ⟨lb, 0, none⟩, 3, pA, pc⟩ ⟨glD ++ [x], loN, l⟩ := by
  obtain ⟨A', c', e, hc⟩ := own3.slice
  subst e
  have hg := dp.h2
  have hl := dp.h3
  refine ⟨A', c', rfl, hc, own_cap' own3, own3.rd, fun s hs => ?_, Nat.le_refl _, by simp [maxLen], ?_, by unfold maxLen; show ∀ s ∈ loN, s.size ≤ _; decide, h1, h2, ?_⟩
  · rcases List.mem_append.1 hs with hs | hs
    · exact (show ∀ s ∈ glD, s.size ≤ maxLen by unfold maxLen; decide) s hs
    · rw [List.mem_singleton.1 hs]; exact hx
  · exact rd_block (w := w2) (g := lb) (T := 9) (cs := loA) (by rw [hkeep lb (lt_of_block dp.hl) (by omega)]; exact dp.hl) rfl
  · obtain ⟨cs, G, hat⟩ := dp.hp
    have hk : GrwX PrG 31 2 b0 (fun _ => False) w2 (.slice pA l.length pc) l := by
      refine ⟨cs, G, hat.len, hat.size, ?_, hat.clear, fun i b hi hb => ?_, hat.apart, fun i hi hi' => PrG.keepP _ _ _ _ _ (hat.is i hi hi') fun b hb => ?_⟩
      · refine ⟨⟨hat.ow.1.1, ?_⟩, by have := hat.ow.2; omega⟩
        rcases hat.ow.1.2 with h | ⟨g, cap, cur, e, hg', hh, r⟩
        · exact .inl h
        · exact .inr ⟨g, cap, cur, e, hg', (hkeep g (lt_of_block hh) (by omega)).trans hh, r⟩
      · have := hat.mem i b hi hb
        exact ⟨this.1, by omega, this.2.2⟩
      · have := hat.mem i b hi hb
        exact hkeep b this.2.1 (by omega)
    exact grwP_row hk
/-- the first procedure has another name -/
theorem other_row {w w2 : World} {b0 pc pb : Nat} {Z : Nat → Prop} {procs : List Pr} {cs : List (List Value)} {G : Nat → Nat → Prop} {s : ByteArray} (hat : GrwAt PrG 31 2 b0 Z w (.slice (some ⟨pb, 0, none⟩) procs.length pc) procs cs G) (h0 : 0 < procs.length) (hs : s.size ≤ maxLen)
    (hkeep : ∀ b, b < w.heap.size → b ≠ pb → w2.heap[b]? = w.heap[b]?) (hpb : ∀ j, j ≠ 0 → w2.cell? ⟨pb, j, none⟩ = w.cell? ⟨pb, j, none⟩) (hp0 : w2.cell? ⟨pb, 0, none⟩ = some (.string s)) :
    PrRow w2 (some ⟨pb, 0, none⟩) (procs.set 0 ⟨s, procs[0].body⟩) := by
  have hcl := hat.len
  have h0' : 0 < cs.length := by omega
  have hmem := hat.mem
  have hpbn : ∀ i b, i < procs.length → G i b → b ≠ pb := fun i b hi hb e => (hmem i b hi hb).2.2.1 (by rw [e]; rfl)
  have hset : (cs.set 0 (cs[0].set 0 (Value.string s))).flatten = cs.flatten.set (0 * 2 + 0) (Value.string s) := (flat_setG _ (by decide) cs 0 h0' hat.size).symm
  refine prRow_cells (cs := cs.set 0 (cs[0].set 0 (Value.string s))) (by simp [hcl]) ?_ (fun i hi hi' => ?_)
  · rw [hset, List.length_set]
    have rd := hat.ow.own.rd
    refine ⟨by rw [List.length_set]; exact rd.1, fun hn => ⟨pb, 0, rfl, fun j u hu => ?_⟩⟩
    obtain ⟨b', off', eb, hc⟩ := rd.2 hn
    injection eb with eb
    injection eb with eb1 eb2
    subst eb1 eb2
    rw [List.getElem?_set] at hu
    split at hu
    · rename_i h3
      have : j = 0 := by omega
      subst this
      split at hu
      · injection hu with hu; rw [← hu]; exact hp0
      · cases hu
    · rename_i h3
      rw [Nat.zero_add, hpb j (by omega)]
      have := hc j u hu
      rwa [Nat.zero_add] at this
  · have hi2 : i < procs.length := by simpa using hi
    have hq := PrG.keepP _ w2 _ _ _ (hat.is i hi2 (by omega)) fun b hb => hkeep b (hmem i b hi2 hb).2.1 (hpbn i b hi2 hb)
    by_cases e : i = 0
    · subst e
      obtain ⟨x, ex, ⟨p1, p2, p3, p4, p5, p6⟩, _⟩ := hq
      refine ⟨⟨s, x.A, x.m, x.c⟩, ?_, ?_⟩
      · rw [List.getElem_set_self, ex]; rfl
      · rw [List.getElem_set_self]
        exact ⟨rfl, p2, hs, p4, p5, p6.any⟩
    · rw [List.getElem_set_ne (Ne.symm e), List.getElem_set_ne (Ne.symm e)]
      exact hq.is
end Go.Proofs.Ytadcebdhgocmhaa
