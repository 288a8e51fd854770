/- Lemmas for the row. -/
import Derived.Test.YtnmblfonmfjoeaaGreatDoorKc32
namespace Go.Proofs.YtnmblfonmfjoeaaGreatDoor
open Go.RowKit
set_option linter.unusedVariables false
def PrG (w : World) (G : Nat → Prop) (cells : List Value) (p : Pr) : Prop := ∃ x : V2, cells = x.cells ∧ PrO w G x p ∧ CapO w G x.A x.m x.c
theorem PrG.keepP : KeepsP PrG := fun w w' G cells p ⟨x, e, h, hc⟩ hk => ⟨x, e, h.keep hk, hc.keep hk⟩
def glA : Array Value := #[.string ⟨#[120]⟩, .string ⟨#[121]⟩, .string ⟨#[122]⟩, .string ⟨#[117]⟩]
def loA : Array Value := #[.string ⟨#[97]⟩, .string ⟨#[98]⟩, .string ⟨#[109]⟩]
def nmA : Array Value := #[.string ⟨#[109, 97, 105, 110]⟩, .string ⟨#[112]⟩, .string ⟨#[113]⟩, .string ⟨#[114]⟩]
structure DrP (lo : Nat) (w : World) (gb lb b0 : Nat) (v : Value) (l : List Pr) : Prop where
 h1 : lo ≤ gb
 h2 : gb < lb
 h3 : lb < b0
 hg : w.heap[gb]? = some (.cells glA 9 (0, 0))
 hl : w.heap[lb]? = some (.cells loA 9 (0, 0))
 hp : GrwX PrG 40 2 b0 (fun _ => False) w v l
def RetPg (w : World) (p : Nat) (A : Option Addr) (c : Nat) (code : List UInt8) (l : List Pr) (k : Cur) (e : Ending) (w' : World) : Prop :=
 ∃ gb lb b0 pA pc, e = .returned (.agg #[.slice (some ⟨gb, 0, none⟩) 4 4, .slice (some ⟨lb, 0, none⟩) 3 3, .slice pA l.length pc]) ∧ l.length ≤ pc ∧ pc ≤ maxLen ∧ DrP w.heap.size w' gb lb b0 (.slice pA l.length pc) l ∧ CurAt w' p A c code k ∧ Keep (fun b => b ≠ p) w w'
theorem spnS_zero_yes {code : List UInt8} {ns : List ByteArray} {l : List St} {k k1 : Cur} {z : Int} (h : belowD code 2 k = (z, k1)) (hz : z = 0) : spnS code ns 0 l k = ([spawnS (ns[1]?.getD ByteArray.empty)] ++ l, k1) := by
 unfold spnS; rw [if_pos rfl]; simp only [h]; rw [if_pos hz]
theorem spnS_zero_no {code : List UInt8} {ns : List ByteArray} {l : List St} {k k1 : Cur} {z : Int} (h : belowD code 2 k = (z, k1)) (hz : ¬ z = 0) : spnS code ns 0 l k = (l, k1) := by
 unfold spnS; rw [if_pos rfl]; simp only [h]; rw [if_neg hz]
theorem spnS_more {code : List UInt8} {ns : List ByteArray} {i : Nat} {l : List St} {k : Cur} (h : i ≠ 0) : spnS code ns i l k = (l, k) := by unfold spnS; rw [if_neg h]
theorem grdS_yes {code : List UInt8} {l r : List St} {k k1 k2 : Cur} {z : Int} (h : belowD code 2 k = (z, k1)) (hz : z = 0) (hg : guardS code l k1 = (r, k2)) : grdS code l k = (r, k2) := by
 unfold grdS; simp only [h]; rw [if_pos hz, hg]
theorem grdS_no {code : List UInt8} {l : List St} {k k1 : Cur} {z : Int} (h : belowD code 2 k = (z, k1)) (hz : ¬ z = 0) : grdS code l k = (l, k1) := by
 unfold grdS; simp only [h]; rw [if_neg hz]
theorem twoS_of {code : List UInt8} {l1 l2 : List St} {k k1 k2 : Cur} (h1 : lstS code (stS code 2) k = (l1, k1)) (h2 : lstS code (stS code 1) k1 = (l2, k2)) : twoS code k = (l1 ++ l2, k2) := by
 unfold twoS; simp only [h1, h2]
theorem bdyD_of {code : List UInt8} {ns : List ByteArray} {i : Nat} {k k2 k3 k4 k5 : Cur} {l0 l1 l2 l3 l4 : List St} (h1 : twoS code k = (l0, k2)) (h2 : rawS l0 = l1) (h3 : grdS code l1 k2 = (l2, k3)) (h4 : spnS code ns i l2 k3 = (l3, k4)) (h5 : fixGs code (ns.drop 1) l3 k4 = (l4, k5)) : bdyD code ns i k = (l4, k5) := by
 unfold bdyD; simp only [h1, h2, h3, h4, h5]
theorem prsD_more {code : List UInt8} {ns : List ByteArray} {f : Nat} {acc : List Pr} {k k1 : Cur} {b : List St} (h : bdyD code ns acc.length k = (b, k1)) : prsD code ns (f + 1) acc k = prsD code ns f (acc ++ [⟨ns[acc.length]?.getD ByteArray.empty, b⟩]) k1 := by
 rw [prsD]; simp only [h]
theorem guardS_len (code : List UInt8) (l : List St) (k : Cur) : (guardS code l k).1.length ≤ l.length + 3 := by
 unfold guardS; repeat' split
 all_goals simp only [List.length_append, List.length_cons, List.length_nil]; omega
theorem grwO_cap {base : Nat} {w : World} {A : Option Addr} {c : Nat} {l : List St} (h : GrwO base w (.slice A l.length c) l) : l.length ≤ c ∧ c ≤ maxLen := by
 obtain ⟨A', c', e, h1, h2⟩ := h.slice
 injection e with _ _ e
 subst e
 exact ⟨h1, h2⟩
theorem rd_nm {w : World} {nb N : Nat} (h : w.heap[nb]? = some (.cells nmA 9 (0, 0))) : Rd w.drew 1 (some ⟨nb, 1, none⟩) ((nmD.take N).drop 1).length (((nmD.take N).drop 1).map Value.string) := by
 refine ⟨by simp, fun hn => ⟨nb, 1, rfl, fun j u hu => ?_⟩⟩
 show w.cell? _ = _
 rw [Lib.cell_of_heap h]
 have e : nmA = (nmD.map Value.string).toArray := rfl
 rw [e, List.getElem?_toArray, List.getElem?_map]
 rw [List.getElem?_map, List.getElem?_drop, List.getElem?_take] at hu
 split at hu
 ·exact hu
 ·cases hu
theorem rd_lt {w : World} {n b off : Nat} {A : Option Addr} {xs : List Value} (h : Rd w 1 A n xs) (e : A = some ⟨b, off, none⟩) (hn : 0 < n) : b < w.heap.size := by
 obtain ⟨b', off', e', hc⟩ := h.2 hn
 rw [e] at e'
 injection e' with e'
 injection e' with e1 e2
 subst e1 e2
 have hl := h.1
 exact cell_lt (hc 0 xs[0] (List.getElem?_eq_getElem (by omega)))
theorem nmD_sz : ∀ s ∈ nmD, s.size ≤ maxLen := by unfold maxLen; decide
theorem nmA_get {i : Nat} (h : i < 4) : nmA[i]? = some (.string (nmD[i]'h)) := by
 match i, h with
 | 0, _ => rfl
 | 1, _ => rfl
 | 2, _ => rfl
 | 3, _ => rfl
theorem five {w : World} {o0 o1 o2 o3 o4 : Obj} : (((((w.alloc o0).alloc o1).alloc o2).alloc o3).alloc o4).heap[w.heap.size]? = some o0 ∧ (((((w.alloc o0).alloc o1).alloc o2).alloc o3).alloc o4).heap[w.heap.size + 1]? = some o1 ∧ (((((w.alloc o0).alloc o1).alloc o2).alloc o3).alloc o4).heap[w.heap.size + 1 + 1]? = some o2 ∧ (((((w.alloc o0).alloc o1).alloc o2).alloc o3).alloc o4).heap[w.heap.size + 1 + 1 + 1]? = some o3 ∧ (((((w.alloc o0).alloc o1).alloc o2).alloc o3).alloc o4).heap[w.heap.size + 1 + 1 + 1 + 1]? = some o4 := by
 have z : ∀ (W : World) (o : Obj), (W.alloc o).heap.size = W.heap.size + 1 := fun W o => by simp
 have n : ∀ (W : World) (o : Obj) (k : Nat), k = W.heap.size → (W.alloc o).heap[k]? = some o := fun W o k e => by rw [e]; exact heap_alloc_new W o
 refine ⟨?_, ?_, ?_, ?_, ?_⟩
 ·rw [heap_alloc_lt (by simp only [z]; omega), heap_alloc_lt (by simp only [z]; omega), heap_alloc_lt (by simp only [z]; omega), heap_alloc_lt (by simp only [z]; omega)]; exact n _ _ _ rfl
 ·rw [heap_alloc_lt (by simp only [z]; omega), heap_alloc_lt (by simp only [z]; omega), heap_alloc_lt (by simp only [z]; omega)]; exact n _ _ _ (by simp only [z])
 ·rw [heap_alloc_lt (by simp only [z]; omega), heap_alloc_lt (by simp only [z]; omega)]; exact n _ _ _ (by simp only [z])
 ·rw [heap_alloc_lt (by simp only [z]; omega)]; exact n _ _ _ (by simp only [z])
 ·exact n _ _ _ (by simp only [z])
theorem cells3 {w : World} {g : Nat} {a0 a1 a2 : Value} {T : TypeId} (h : w.heap[g]? = some (.cells #[a0, a1, a2] T (0, 0))) :
  (w.cell? ⟨g, 0, none⟩ = some a0 ∧ w.cell? ⟨g, 1, none⟩ = some a1 ∧ w.cell? ⟨g, 2, none⟩ = some a2) ∧ w.frozen? ⟨g, 0, none⟩ = false ∧ w.frozen? ⟨g, 1, none⟩ = false ∧ w.frozen? ⟨g, 2, none⟩ = false := by
 refine ⟨⟨?_, ?_, ?_⟩, ?_, ?_, ?_⟩
 all_goals first | exact Lib.frozen_of_heap h _ | (rw [Lib.cell_of_heap h]; rfl)
set_option maxHeartbeats 6400000 in
set_option maxRecDepth 100000 in
theorem spec_l05Prog (p : Nat) (A : Option Addr) (c : Nat) (code : List UInt8) (k : Cur) (w : World) (rd : Rd w 1 A code.length (bv code)) (hl : code.length ≤ 1048576) (hc : c ≤ maxLen) (hk : CurAt w p A c code k) :
  Calls Tryz.prog 14 #[.pointer (some ⟨p, 0, none⟩)] w (RetPg w p A c code (pgD code k).1.procs (pgD code k).2) := by
 have RD := qh rd
 have HK := qh hk
 have hpl := lt_of_block hk.at'
 have hbd := belowD_bd code (n := 3) (by decide) k
 have PE : Hid ((pgD code k).1.procs = (prsD code (nsD (belowD code 3 k).1) (nsD (belowD code 3 k).1).length [] (belowD code 3 k).2).1 ∧ (pgD code k).2 = (prsD code (nsD (belowD code 3 k).1) (nsD (belowD code 3 k).1).length [] (belowD code 3 k).2).2) := qh ⟨rfl, rfl⟩
 rw [PE.out.1, PE.out.2]
 clear PE
 obtain ⟨xk, hx⟩ : ∃ xk, xk = belowD code 3 k := ⟨_, rfl⟩
 rw [← hx] at hbd ⊢
 obtain ⟨x, kx⟩ := xk
 have HX := qh hx.symm
 simp only at hbd ⊢
 clear hx
 have HNS : Hid (nsD x = nmD.take (2 + x).toNat ∧ (nsD x).length = (2 + x).toNat) := qh ⟨rfl, by unfold nsD; rw [List.length_take]; have : nmD.length = 4 := rfl; omega⟩
 generalize hRR : RetPg w p A c code (prsD code (nsD x) (nsD x).length [] kx).1 (prsD code (nsD x) (nsD x).length [] kx).2 = RR
 have HRet : Hid (∀ gb lb b0 pA pc l w' k', prsD code (nsD x) (nsD x).length [] kx = (l, k') → l.length ≤ pc → pc ≤ maxLen → DrP w.heap.size w' gb lb b0 (.slice pA l.length pc) l → CurAt w' p A c code k' → Keep (fun b => b ≠ p) w w' → RR (.returned (.agg #[.slice (some ⟨gb, 0, none⟩) 4 4, .slice (some ⟨lb, 0, none⟩) 3 3, .slice pA l.length pc])) w') := qh (fun gb lb b0 pA pc l w' k' e h1 h2 h3 h4 h5 => by rw [← hRR, e]; exact ⟨gb, lb, b0, pA, pc, rfl, h1, h2, h3, h4, h5⟩)
 clear hRR rd hk
 go_enter Tryz.func14, Tryz.ntmps14
 go_wp2_with fail
 generalize hW : World.alloc _ _ = WW
 have hszW : WW.heap.size = w.heap.size + 1 + 1 + 1 + 1 + 1 := by rw [← hW]; simp
 have HRB : Hid (WW.heap[w.heap.size]? = some (.cells #[.slice none 0 0, .slice none 0 0, .slice none 0 0] 27 (0, 0))) := qh (by rw [← hW]; exact five.1)
 have HGB : Hid (WW.heap[w.heap.size + 1]? = some (.cells glA 9 (0, 0))) := qh (by rw [← hW]; exact five.2.1)
 have HLB : Hid (WW.heap[w.heap.size + 1 + 1]? = some (.cells loA 9 (0, 0))) := qh (by rw [← hW]; exact five.2.2.1)
 have HBX : Hid (WW.heap[w.heap.size + 1 + 1 + 1]? = some (.cells #[.slice (some ⟨w.heap.size + 1, 0, none⟩) 4 4, .slice (some ⟨w.heap.size + 1 + 1, 0, none⟩) 3 3, .slice none 0 0] 27 (0, 0))) := qh (by rw [← hW]; exact five.2.2.2.1)
 have HNB : Hid (WW.heap[w.heap.size + 1 + 1 + 1 + 1]? = some (.cells nmA 9 (0, 0))) := qh (by rw [← hW]; exact five.2.2.2.2)
 have KWW : Hid (Keep (fun b => b ≠ p) w WW) := qh (by rw [← hW]; exact ((((((Keep.refl _ _).alloc _).alloc _).alloc _).alloc _).alloc _))
 have CW : Hid (CurAt WW p A c code k) := qh (by rw [← hW]; exact HK.out.keep zB)
 have RW : Hid (Rd WW 1 A code.length (bv code)) := qh (rd_apart RD.out HK.out KWW.out)
 clear hW
 refine (spec_l01Below 3 p A c code k _ RW.out hl hc CW.out (by omega)).mono ?_
 rintro e w1 ⟨rfl, k1, kp1⟩
 rw [HX.out] at k1
 rw [HX.out]
 simp only at k1
 obtain ⟨hx0, hx3⟩ := hbd
 have hn2 : 2 ≤ (2 + x).toNat := by omega
 have hn4 : (2 + x).toNat ≤ 4 := by omega
 go_wp2_with fail
 generalize hnn : (2 + x).toNat = N at *
 generalize hbn : w.heap.size + 1 + 1 + 1 + 1 = nb at *
 generalize hbb : w.heap.size + 1 + 1 + 1 = bx at *
 generalize hbl : w.heap.size + 1 + 1 = lb at *
 generalize hbg : w.heap.size + 1 = gb at *
 have hord : w.heap.size < gb ∧ gb < lb ∧ lb < bx ∧ bx < nb ∧ nb < WW.heap.size := by omega
 obtain ⟨ho1, ho2, ho3, ho4, ho5⟩ := hord
 have hws := kp1.size
 have KB1 : Hid (w1.heap[bx]? = some (.cells #[.slice (some ⟨gb, 0, none⟩) 4 4, .slice (some ⟨lb, 0, none⟩) 3 3, .slice none 0 0] 27 (0, 0))) := qh ((kp1.block bx (by omega) (by omega)).trans HBX.out)
 have NB1 : Hid (w1.heap[nb]? = some (.cells nmA 9 (0, 0))) := qh ((kp1.block nb (by omega) (by omega)).trans HNB.out)
 have GB1 : Hid (w1.heap[gb]? = some (.cells glA 9 (0, 0))) := qh ((kp1.block gb (by omega) (by omega)).trans HGB.out)
 have LB1 : Hid (w1.heap[lb]? = some (.cells loA 9 (0, 0))) := qh ((kp1.block lb (by omega) (by omega)).trans HLB.out)
 have RB1 : Hid (w1.heap[w.heap.size]? = some (.cells #[.slice none 0 0, .slice none 0 0, .slice none 0 0] 27 (0, 0))) := qh ((kp1.block w.heap.size (by omega) (by omega)).trans HRB.out)
 have K1 := qh k1
 have P1 : Hid (Keep (fun b => b ≠ p) w w1) := qh (KWW.out.trans kp1 (fun _ _ h => h))
 have R1 := qh (rd_apart RD.out HK.out P1.out)
 have hb0 : nb < w1.heap.size := by omega
 have HNL : Hid ((nsD x).length = N ∧ nsD x = nmD.take N) := qh ⟨HNS.out.2, HNS.out.1⟩
 generalize hns : nsD x = ns at *
 clear hns k1 kp1 hszW HRB HGB HLB HBX HNB KWW CW RW hnn hbn hbb hbl hbg ho5 hws HNS HX hx0 hx3
 generalize hFIN : prsD code ns ns.length [] kx = FIN at *
 have HF0 : Hid (prsD code ns N [] kx = FIN) := qh (by rw [← hFIN, HNL.out.1])
 clear hFIN
 go_loopw [5] (fun i wr => ∃ (acc : List Pr) (kc : Cur), acc.length ≤ N ∧ i = .int .i64 (acc.length : Int) ∧ Hid (∃ v, wr.heap[bx]? = some (.cells #[.slice (some ⟨gb, 0, none⟩) 4 4, .slice (some ⟨lb, 0, none⟩) 3 3, v] 27 (0, 0)) ∧ GrwX PrG 40 2 w1.heap.size (fun _ => False) wr v acc ∧ CurAt wr p A c code kc ∧ Keep (fun b => b < w1.heap.size ∧ b ≠ p ∧ b ≠ bx) w1 wr ∧ prsD code ns (N - acc.length) acc kc = FIN)) (fun i _ => 5 - (intOf i).toNat)
 case atStart => exact ⟨[], kx, by simp, rfl, qh ⟨.slice none 0 0, KB1.out, GrwX.nil (Nat.le_refl _), K1.out, Keep.refl _ _, by simpa using HF0.out⟩⟩
 case round =>
  obtain ⟨acc, kc, hj, rfl, HR⟩ := hrel
  obtain ⟨v, hbx, hgr, hcu, hkp, hpr⟩ := HR.out
  obtain ⟨pA, pc, rfl, hpc1, hpc2⟩ := hgr.slice
  have BX := qh hbx
  have GR := qh hgr
  have CU := qh hcu
  have KP := qh hkp
  have PR := qh hpr
  have hzr := hkp.size
  have hpw := lt_of_block hcu.at'
  have KW : Hid (Keep (fun b => b ≠ p) w wr) := qh (P1.out.trans hkp (fun b hb h => ⟨by omega, h, by omega⟩))
  have RR' := qh (rd_apart RD.out HK.out KW.out)
  have hpr' := P1.out.size
  clear hbx hgr hcu hkp hpr HR
  by_cases hlt : acc.length < N
  case neg =>
   have RBr : Hid (wr.heap[w.heap.size]? = some (.cells #[.slice none 0 0, .slice none 0 0, .slice none 0 0] 27 (0, 0))) := qh ((KP.out.block w.heap.size (by omega) ⟨by omega, by omega, by omega⟩).trans RB1.out)
   obtain ⟨⟨a0, a1, a2⟩, e0, e1, e2⟩ := cells3 BX.out
   obtain ⟨⟨r0, r1, r2⟩, f0, f1, f2⟩ := cells3 RBr.out
   go_wp2_with fail
   refine bodyPost_ret (v := .agg #[.slice (some ⟨gb, 0, none⟩) 4 4, .slice (some ⟨lb, 0, none⟩) 3 3, .slice pA acc.length pc]) (by simp [results, Tryz.results14, go_sem, a0, a1, a2, r0, r1, r2]) rfl ?_
   have hN : N - acc.length = 0 := by omega
   have hfin := PR.out
   rw [hN, prsD] at hfin
   have ks : Keep (fun b => b ≠ w.heap.size) wr (((wr.setCell ⟨w.heap.size, 0, none⟩ (.slice (some ⟨gb, 0, none⟩) 4 4)).setCell ⟨w.heap.size, 1, none⟩ (.slice (some ⟨lb, 0, none⟩) 3 3)).setCell ⟨w.heap.size, 2, none⟩ (.slice pA acc.length pc)) := (((Keep.refl _ _).setCell (p := ⟨w.heap.size, 0, none⟩) (fun h => h rfl) _).setCell (p := ⟨w.heap.size, 1, none⟩) (fun h => h rfl) _).setCell (p := ⟨w.heap.size, 2, none⟩) (fun h => h rfl) _
   refine HRet.out gb lb w1.heap.size pA pc acc _ kc hfin.symm hpc1 hpc2 ⟨by omega, ho2, by omega, ?_, ?_, GR.out.keep PrG.keepP ks (fun b hb _ _ => by omega)⟩ (((CU.out.setNew (a := ⟨w.heap.size, 0, none⟩) (by show w.heap.size ≠ p; omega) _).setNew (a := ⟨w.heap.size, 1, none⟩) (by show w.heap.size ≠ p; omega) _).setNew (a := ⟨w.heap.size, 2, none⟩) (by show w.heap.size ≠ p; omega) _) (KW.out.trans ks (fun b hb _ => by omega))
   ·rw [ks.block gb (by omega) (by omega), KP.out.block gb (by omega) ⟨by omega, by omega, by omega⟩]; exact GB1.out
   ·rw [ks.block lb (by omega) (by omega), KP.out.block lb (by omega) ⟨by omega, by omega, by omega⟩]; exact LB1.out
  have NBr : Hid (wr.heap[nb]? = some (.cells nmA 9 (0, 0))) := qh ((KP.out.block nb (by omega) ⟨by omega, by omega, by omega⟩).trans NB1.out)
  have hi0 : (0 : Int) ≤ (acc.length : Int) := by omega
  have hi4 : acc.length < 4 := by omega
  go_wp2_with fail
  refine (spec_l04ListG 2 (by omega) p A c code kc _ RR'.out hl hc CU.out).mono ?_
  rintro e w2 ⟨A2, c2, rfl, ha2, hc2, g2, k2, kp2⟩
  have hl1 := lstS_len (code := code) (one := stS code 2) kc
  generalize hd1 : lstS code (stS code 2) kc = r1 at *
  obtain ⟨l1, ka⟩ := r1
  simp only at ha2 g2 k2 hl1
  have HD1 := qh hd1
  have G2 := qh g2
  have K2 := qh k2
  have P2 := qh kp2
  have R2 := qh (rd_apart RR'.out CU.out kp2)
  have hz2 := kp2.size
  clear hd1 g2 k2 kp2
  go_wp2_with fail
  refine (spec_l04ListG 1 (by omega) p A c code ka _ R2.out hl hc K2.out).mono ?_
  rintro e w3 ⟨A3, c3, rfl, ha3, hc3, g3, k3, kp3⟩
  have hl2 := lstS_len (code := code) (one := stS code 1) ka
  generalize hd2 : lstS code (stS code 1) ka = r2 at *
  obtain ⟨l2, kb⟩ := r2
  simp only at ha3 g3 k3 hl2
  have HTW := qh (twoS_of HD1.out hd2)
  have K3 := qh k3
  have P3 := qh (P2.out.trans kp3 (fun _ _ h => h))
  have Q3 := qh kp3
  have hz3 := kp3.size
  obtain ⟨ys, GY, hyl, ry, hy⟩ := stRowO_to g3.rowB
  have RY := qh ry
  have HY := qh hy
  have HYL := qh hyl
  have YRD := qh ry.1
  clear hd2 g3 k3 kp3 ry hy hyl HD1 K2 R2
  obtain ⟨xs7, G7, hxl7, ow7, hG7, hd7, hx7⟩ := G2.out
  have OW7 := qh ow7.own
  have OX7 := qh ow7
  have HX7 := qh (And.intro hxl7 (And.intro hG7 (And.intro hd7 hx7)))
  clear ow7 hxl7 hG7 hd7 hx7
  have OWK := qh (OX7.out.keep Q3.out (fun b hb => by have := (OX7.out.lt b hb).1; omega)).own
  go_wp2_with (at_builtin; first | (refine wpList_appG rfl _ _ _ rfl sgT rfl OWK.out A3 l2.length c3 (ys.flatMap V8.cells) rfl YRD.out (v8_one ys) (by simp only [maxLen]; omega) (by omega) ?_; intro v4 w4 own4 gr4; have GN4 : Hid (GrwO wr.heap.size w4 v4 (l1 ++ l2)) := qh (grw_cat (S := fun b => b ≠ p) HX7.out.1 OX7.out HX7.out.2.1 HX7.out.2.2.1 HX7.out.2.2.2 (Nat.le_refl _) Q3.out (fun b hb _ => by omega) HYL.out RY.out HY.out (fun b hb => ⟨by have := hb.1; omega, hb.2, fun h => by have := hb.1; have := h.2; omega⟩) own4 gr4); have BG4 : Hid (Keep (fun b => b < wr.heap.size) w3 w4) := qh (gr4.keep.mono fun b _ hb e => by have := OX7.out.lt b e; omega); have LA4 : v4 = v4 ∧ ∃ A c, v4 = .slice A (l1 ++ l2).length c ∧ (l1 ++ l2).length ≤ c ∧ c ≤ maxLen := ⟨rfl, GN4.out.slice⟩; obtain ⟨-, A4, c4, rfl, hA4, hc4⟩ := LA4; obtain ⟨L4, hL4⟩ : ∃ L', L' = l1 ++ l2 := ⟨_, rfl⟩; have hlL4 : L4.length ≤ l1.length + l2.length := (by rw [hL4, List.length_append]; omega); have HL4 := qh hL4; rw [← hL4] at GN4 hA4 ⊢; clear hL4 own4 gr4))
  have K4 : Hid (CurAt w4 p A c code kb) := qh ⟨by rw [BG4.out.block p (lt_of_block K3.out.at') hpw]; exact K3.out.at', K3.out.le⟩
  have P4 : Hid (Keep (fun b => b < wr.heap.size ∧ b ≠ p) wr w4) := qh ((P3.out.mono (fun b _ (h : b < wr.heap.size ∧ b ≠ p) => h.2)).trans BG4.out (fun b _ h => h.1))
  have hz4 : wr.heap.size ≤ w4.heap.size := P4.out.size
  clear K3 P3 Q3 BG4 P2 G2
  refine (spec_l04Count L4 A4 c4 50 _ GN4.out.rowB.any hA4 hc4 (by omega) (by omega)).mono ?_
  rintro e w5 ⟨rfl, q5⟩
  have b5 := q5.below
  have G5 := qh (GN4.out.below b5)
  have K5 := qh (K4.out.keep b5)
  have P5 : Hid (Keep (fun b => b < wr.heap.size ∧ b ≠ p) wr w5) := qh (P4.out.trans (Keep.of_below (S := fun b => b < wr.heap.size ∧ b ≠ p) b5) (fun _ _ h => h))
  have hz5 : wr.heap.size ≤ w5.heap.size := P5.out.size
  clear q5 b5 GN4 K4 P4
  refine (Classical.em (snodess L4 ≤ 50)).elim (fun hcnt => ?_) (fun hcnt => ?_)
  focus
   have HC := qh (cut0_pos (n := (50 : Int) - (snodess L4 : Int)) (by omega))
   have hn : ¬ ((50 : Int) - (snodess L4 : Int) < 0) := by omega
   have HRAW : Hid (rawS (l1 ++ l2) = L4) := qh (by rw [← HL4.out]; unfold rawS; rw [if_pos hcnt])
   rw [HC.out]
   clear HC hcnt
   go_wp2_with fail
   have haB := hA4
   have GB := G5; have KB := K5; have PB := P5; clear G5 K5 P5
   generalize w5 = wB at *
   generalize A4 = AB at *
   generalize L4 = LB at *
   generalize c4 = cB at *
  rotate_left
  focus
   have HC := qh (cut0_neg (n := (50 : Int) - (snodess L4 : Int)) (by omega))
   have HRAW : Hid (rawS (l1 ++ l2) = [skipS]) := qh (by rw [← HL4.out]; unfold rawS; rw [if_neg hcnt])
   have GS : Hid (GrwO wr.heap.size (w5.alloc (.cells #[.int .i64 8, .string ⟨#[]⟩, .int .i64 0, .int .i64 0, .string ⟨#[]⟩, .slice none 0 0, .slice none 0 0, .slice none 0 0] 71)) (.slice (some ⟨w5.heap.size, 0, none⟩) 1 1) [skipS]) := qh ((grwO_lit ⟨8, ⟨#[]⟩, 0, 0, ⟨#[]⟩, none, 0, 0, none, 0, 0, none, 0, 0⟩ skipS w5 (fun w' => flatO 8 ⟨#[]⟩ (by unfold i64in; omega) (Nat.zero_le _) w')).mono hz5)
   have K5' : Hid (CurAt (w5.alloc (.cells #[.int .i64 8, .string ⟨#[]⟩, .int .i64 0, .int .i64 0, .string ⟨#[]⟩, .slice none 0 0, .slice none 0 0, .slice none 0 0] 71)) p A c code kb) := qh (K5.out.keep zB)
   have P5' : Hid (Keep (fun b => b < wr.heap.size ∧ b ≠ p) wr (w5.alloc (.cells #[.int .i64 8, .string ⟨#[]⟩, .int .i64 0, .int .i64 0, .string ⟨#[]⟩, .slice none 0 0, .slice none 0 0, .slice none 0 0] 71))) := qh (P5.out.alloc _)
   have hlLS : [skipS].length ≤ 1 := by simp
   rw [HC.out]
   clear HC hcnt
   go_wp2_with fail
   generalize hws : w5.alloc (.cells #[.int .i64 8, .string ⟨#[]⟩, .int .i64 0, .int .i64 0, .string ⟨#[]⟩, .slice none 0 0, .slice none 0 0, .slice none 0 0] 71) = ws at *
   have hz5' : wr.heap.size ≤ ws.heap.size := P5'.out.size
   clear hws G5 K5 P5 hz5
   generalize hvS : Value.slice (some ⟨w5.heap.size, 0, none⟩) 1 1 = vS at *
   generalize hLS : [skipS] = LS at *
   obtain ⟨AS, cS, rfl, haB, hcS⟩ : ∃ A c, vS = Value.slice A LS.length c ∧ LS.length ≤ c ∧ c ≤ maxLen := ⟨_, 1, by rw [← hvS, ← hLS]; rfl, hlLS, by unfold maxLen; omega⟩
   clear hLS
   have GB := GS; have KB := K5'; have PB := P5'; clear GS K5' P5'
   generalize ws = wB at *
   generalize AS = AB at *
   generalize LS = LB at *
   generalize cS = cB at *
  all_goals
   have RBb : Hid (Rd wB 1 A code.length (bv code)) := qh (rd_apart RR'.out CU.out (PB.out.mono (fun b hb h => ⟨hb, h⟩)))
   refine (spec_l01Once 2 p A c code kb _ RBb.out hl hc KB.out (by omega)).mono ?_
   rintro e w6 ⟨rfl, k6, kp6⟩
   have K6 := qh k6
   have P6 : Hid (Keep (fun b => b < wr.heap.size ∧ b ≠ p) wr w6) := qh (PB.out.trans kp6 (fun _ _ h => h.2))
   have G6 := qh (GB.out.keep kp6 (fun b hb _ => by omega))
   have hz6 : wr.heap.size ≤ w6.heap.size := P6.out.size
   generalize hb6 : belowD code 2 kb = z6 at *
   obtain ⟨z, k6'⟩ := z6
   have HZ6 := qh hb6
   clear k6 kp6 hb6 RBb KB PB GB
   simp only at K6
   refine (Classical.em (z = 0)).elim (fun hz => ?_) (fun hz => ?_)
   focus
    have hzb : (z == 0) = true := by simp [hz]
    have RB6 : Hid (Rd w6 1 A code.length (bv code)) := qh (rd_apart RR'.out CU.out (P6.out.mono (fun b hb h => ⟨hb, h⟩)))
    go_wp2_with fail
    refine (spec_l05Guarded wr.heap.size p A c code k6' AB cB LB w6 RB6.out hl hc K6.out hpw G6.out (by omega)).mono ?_
    rintro e w7 ⟨A7, c7, rfl, ha7, hc7, g7, k7, kp7⟩
    have hgl := guardS_len code LB k6'
    generalize hg7 : guardS code LB k6' = r7 at *
    obtain ⟨L7, k7'⟩ := r7
    simp only at ha7 g7 k7 hgl
    have HGR := qh (grdS_yes HZ6.out hz hg7)
    have G7 := qh g7
    have K7 := qh k7
    have P7 : Hid (Keep (fun b => b < wr.heap.size ∧ b ≠ p) wr w7) := qh (P6.out.trans kp7 (fun _ _ h => h))
    have hz7 : wr.heap.size ≤ w7.heap.size := P7.out.size
    clear hg7 g7 k7 kp7 G6 K6 P6 RB6
    have GC := G7; have KC := K7; have PC := P7; clear G7 K7 P7
    generalize w7 = wC at *
    generalize A7 = AC at *
    generalize L7 = LC at *
    generalize k7' = kC at *
    generalize c7 = cC at *
   rotate_left
   focus
    have hzb : (z == 0) = false := by simp [hz]
    have HGR := qh (grdS_no (l := LB) HZ6.out hz)
    have ha7 := haB
    have GC := G6; have KC := K6; have PC := P6; clear G6 K6 P6
    generalize w6 = wC at *
    generalize AB = AC at *
    generalize LB = LC at *
    generalize k6' = kC at *
    generalize cB = cC at *
   all_goals
    refine (Classical.em (acc.length = 0)).elim (fun hi => ?_) (fun hi => ?_)
    focus
     have hib : ((acc.length : Int) == 0) = true := by simp [hi]
     have RBc : Hid (Rd wC 1 A code.length (bv code)) := qh (rd_apart RR'.out CU.out (PC.out.mono (fun b hb h => ⟨hb, h⟩)))
     have HI := qh hi
     clear hi
     go_wp2_with fail
     refine (spec_l01Once 2 p A c code kC _ RBc.out hl hc KC.out (by omega)).mono ?_
     rintro e w8 ⟨rfl, k8, kp8⟩
     have K8 := qh k8
     have P8 : Hid (Keep (fun b => b < wr.heap.size ∧ b ≠ p) wr w8) := qh (PC.out.trans kp8 (fun _ _ h => h.2))
     have G8 := qh (GC.out.keep kp8 (fun b hb _ => by omega))
     have hz8 : wr.heap.size ≤ w8.heap.size := P8.out.size
     generalize hb8 : belowD code 2 kC = z8 at *
     obtain ⟨y, k8'⟩ := z8
     have HZ8 := qh hb8
     clear k8 kp8 hb8 RBc KC PC GC
     simp only at K8
     refine (Classical.em (y = 0)).elim (fun hy => ?_) (fun hy => ?_)
     focus
      have hyb : (y == 0) = true := by simp [hy]
      have HY0 := qh hy
      clear hy
      have NB8 : Hid (w8.heap[nb]? = some (.cells nmA 9 (0, 0))) := qh ((P8.out.block nb (by omega) ⟨by omega, by omega⟩).trans NBr.out)
      have n1 : w8.cell? ⟨nb, 1, none⟩ = some (.string ⟨#[112]⟩) := by rw [Lib.cell_of_heap NB8.out]; rfl
      have HNS1 : Hid (ns[1]?.getD ByteArray.empty = ⟨#[112]⟩) := qh (by rw [HNL.out.2, List.getElem?_take, if_pos (by omega)]; rfl)
      have h1N : (1 : Int) < (N : Int) := by omega
      obtain ⟨ys, GY, hyl, ry, hy⟩ := stRowO_to G8.out.rowB
      have GP : Hid (GrwO w8.heap.size (w8.alloc (.cells #[.int .i64 5, .string ⟨#[112]⟩, .int .i64 0, .int .i64 0, .string ⟨#[]⟩, .slice none 0 0, .slice none 0 0, .slice none 0 0] 71)) (.slice (some ⟨w8.heap.size, 0, none⟩) 1 1) [spawnS ⟨#[112]⟩]) := qh (grwO_lit ⟨5, ⟨#[112]⟩, 0, 0, ⟨#[]⟩, none, 0, 0, none, 0, 0, none, 0, 0⟩ (spawnS ⟨#[112]⟩) w8 (fun w' => flatO 5 ⟨#[112]⟩ (by unfold i64in; omega) (by simp [maxLen]; decide) w'))
      have RY := qh (ry.keep (w' := w8.alloc (.cells #[.int .i64 5, .string ⟨#[112]⟩, .int .i64 0, .int .i64 0, .string ⟨#[]⟩, .slice none 0 0, .slice none 0 0, .slice none 0 0] 71)) (fun b hb => heap_alloc_lt hb.2))
      have HY : Hid (∀ i (h : i < LC.length) (h' : i < ys.length), StO (w8.alloc (.cells #[.int .i64 5, .string ⟨#[112]⟩, .int .i64 0, .int .i64 0, .string ⟨#[]⟩, .slice none 0 0, .slice none 0 0, .slice none 0 0] 71)) (GY i) ys[i] LC[i]) := qh (fun i hi hi' => (hy i hi hi').keep fun b hb => heap_alloc_lt (ry.2.2.1 i b hi hb).2)
      have HYL := qh hyl
      have YRD := qh RY.out.1
      clear ry hy hyl
      obtain ⟨LP, hLP⟩ : ∃ L', L' = [spawnS ⟨#[112]⟩] := ⟨_, rfl⟩
      have hlLP : LP.length ≤ 1 := by rw [hLP]; simp
      have HLP := qh hLP
      rw [← hLP] at GP
      clear hLP
      obtain ⟨xs8, G8, hxl8, ow8, hG8, hd8, hx8⟩ := GP.out
      have OW8 := qh ow8.own
      have OX8 := qh ow8
      have HX8 := qh (And.intro hxl8 (And.intro hG8 (And.intro hd8 hx8)))
      clear ow8 hxl8 hG8 hd8 hx8
      go_wp2_with (at_builtin; first | (refine wpList_appG rfl _ _ _ rfl sgT rfl OW8.out AC LC.length cC (ys.flatMap V8.cells) rfl YRD.out (v8_one ys) (by simp only [maxLen]; omega) (by omega) ?_; intro v9 w9 own9 gr9; have GN9 : Hid (GrwO wr.heap.size w9 v9 (LP ++ LC)) := qh (grw_cat (S := fun _ => True) HX8.out.1 OX8.out HX8.out.2.1 HX8.out.2.2.1 HX8.out.2.2.2 hz8 (Keep.refl _ _) (fun _ _ _ => trivial) HYL.out RY.out HY.out (fun b hb => ⟨hb.1, by have := hb.2; simp; omega, fun h => by have := hb.2; have := h.1; omega⟩) own9 gr9); have BG9 : Hid (Keep (fun b => b < w8.heap.size) w8 w9) := qh (((Keep.refl (fun b => b < w8.heap.size) w8).alloc _).trans (gr9.keep.mono (S' := fun b => b < w8.heap.size) fun b _ hb e => by have := OX8.out.lt b e; omega) (fun _ _ h => h)); have LA9 : v9 = v9 ∧ ∃ A c, v9 = .slice A (LP ++ LC).length c ∧ (LP ++ LC).length ≤ c ∧ c ≤ maxLen := ⟨rfl, GN9.out.slice⟩; obtain ⟨-, A9, c9, rfl, hA9, hc9⟩ := LA9; obtain ⟨L9, hL9⟩ : ∃ L', L' = LP ++ LC := ⟨_, rfl⟩; have hlL9 : L9.length ≤ LP.length + LC.length := (by rw [hL9, List.length_append]; omega); have HL9 := qh hL9; rw [← hL9] at GN9 hA9 ⊢; clear hL9 own9 gr9))
      have K9 : Hid (CurAt w9 p A c code k8') := qh ⟨by rw [BG9.out.block p (lt_of_block K8.out.at') (by omega)]; exact K8.out.at', K8.out.le⟩
      have P9 : Hid (Keep (fun b => b < wr.heap.size ∧ b ≠ p) wr w9) := qh (P8.out.trans BG9.out (fun b _ h => by have := h.1; omega))
      have HSP : Hid (spnS code ns acc.length LC kC = (L9, k8')) := qh (by rw [HI.out, spnS_zero_yes HZ8.out HY0.out, HNS1.out, HL9.out, HLP.out])
      have hz9 : wr.heap.size ≤ w9.heap.size := P9.out.size
      have GD := GN9; have KD := K9; have PD := P9; clear GN9 K9 P9
      generalize w9 = wD at *
      generalize A9 = AD at *
      generalize L9 = LD at *
      generalize k8' = kD at *
      generalize c9 = cD at *
     rotate_left
     focus
      have hyb : (y == 0) = false := by simp [hy]
      have HSP : Hid (spnS code ns acc.length LC kC = (LC, k8')) := qh (by rw [HI.out, spnS_zero_no HZ8.out hy])
      go_wp2_with fail
      have GD := G8; have KD := K8; have PD := P8; clear G8 K8 P8
      generalize w8 = wD at *
      generalize AC = AD at *
      generalize LC = LD at *
      generalize k8' = kD at *
      generalize cC = cD at *
    rotate_left 2
    focus
     have hib : ((acc.length : Int) == 0) = false := beq_eq_false_iff_ne.2 (by omega)
     have HSP := qh (spnS_more (code := code) (ns := ns) (l := LC) (k := kC) hi)
     go_wp2_with fail
     have GD := GC; have KD := KC; have PD := PC; clear GC KC PC
     generalize wC = wD at *
     generalize AC = AD at *
     generalize LC = LD at *
     generalize kC = kD at *
     generalize cC = cD at *
    all_goals
     have BXW : Hid (wD.heap[bx]? = some (.cells #[.slice (some ⟨gb, 0, none⟩) 4 4, .slice (some ⟨lb, 0, none⟩) 3 3, .slice pA acc.length pc] 27 (0, 0))) := qh ((PD.out.block bx (by omega) ⟨by omega, by omega⟩).trans BX.out)
     have NBW : Hid (wD.heap[nb]? = some (.cells nmA 9 (0, 0))) := qh ((PD.out.block nb (by omega) ⟨by omega, by omega⟩).trans NBr.out)
     have RBW : Hid (Rd wD 1 A code.length (bv code)) := qh (rd_apart RR'.out CU.out (PD.out.mono (fun b hb h => ⟨hb, h⟩)))
     obtain ⟨nmi, hnmi⟩ : ∃ s, s = nmD[acc.length] := ⟨_, rfl⟩
     have HNMI := qh hnmi
     have hnsz : nmi.size ≤ maxLen := by rw [hnmi]; exact nmD_sz _ (List.getElem_mem _)
     have b2 : wD.drew.cell? ⟨bx, 2, none⟩ = some (.slice pA acc.length pc) := (cells3 BXW.out).1.2.2
     have n0 : wD.drew.cell? ⟨nb, acc.length, none⟩ = some (.string nmi) := by
      show wD.cell? _ = _
      rw [Lib.cell_of_heap NBW.out, HNMI.out]; exact nmA_get hi4
     have h1N' : (1 : Int) ≤ (N : Int) := by omega
     have DL : Hid ((ns.drop 1).length = N - 1) := qh (by rw [List.length_drop, HNL.out.1])
     have NMS : Hid (∀ s ∈ ns.drop 1, s.size ≤ maxLen) := qh (fun s hs => nmD_sz s (by have := List.mem_of_mem_drop hs; rw [HNL.out.2] at this; exact List.mem_of_mem_take this))
     have NRD : Hid (Rd wD.drew 1 (some ⟨nb, 1, none⟩) (ns.drop 1).length ((ns.drop 1).map Value.string)) := qh (by rw [HNL.out.2]; exact rd_nm NBW.out)
     clear hnmi
     refine wp_region_sk (fun w' => w'.cell? ⟨bx, 2, none⟩ = some (.slice pA acc.length pc) ∧ w'.cell? ⟨nb, acc.length, none⟩ = some (.string nmi)) 15 (by kernel_rfl) ⟨b2, n0⟩ (fun hHeld => ?_)
     refine skT 0 ?_
     refine skT 1 ?_
     refine skT 2 ?_
     refine skT 3 ?_
     refine skT 4 ?_
     refine skT 5 ?_
     refine skT 6 ?_
     refine skT 7 ?_
     refine skT 8 ?_
     refine skT 9 ?_
     have hN2 : 0 < N - 1 := by omega
     have HLC := qh (grwO_cap GD.out)
     refine wpSk_step (i := 10) (by kernel_rfl) rfl (fun K hK => ?_)
     go_simp
     have FX := spec_l05Fix LD (ns.drop 1) nb 1 3 p A c code kD (fun b => wr.heap.size ≤ b ∧ b < wD.heap.size) AD cD wD.drew (by rw [DL.out]; omega) (by rw [DL.out]; omega) NMS.out NRD.out (fun h => by have := h.1; omega) (by omega) RBW.out (fun b off e hn h => by have := rd_lt RD.out e hn; have := h.1; omega) hl hc ⟨KD.out.at', KD.out.le⟩ (fun h => by have := h.1; omega) (GD.out.rowB.keep fun _ _ => rfl) (fun b h => h.2) HLC.out.1 HLC.out.2
     rw [DL.out] at FX
     refine FX.mono ?_
     rintro e w10 ⟨rfl, r10, k10, kp10, sh10⟩
     have hfl := fixGs_len code (ns.drop 1) LD kD
     generalize hfx : fixGs code (ns.drop 1) LD kD = rx at *
     obtain ⟨lx, k5⟩ := rx
     simp only at r10 k10 hfl
     have HBD := qh (bdyD_of HTW.out HRAW.out HGR.out HSP.out hfx)
     have hz10 : wD.heap.size ≤ w10.heap.size := kp10.size
     have hzW : wr.heap.size ≤ wD.heap.size := PD.out.size
     have HPR : Hid (PrG w10 (fun b => wr.heap.size ≤ b ∧ b < w10.heap.size) [.string nmi, .slice AD LD.length cD] ⟨nmi, lx⟩) := qh ⟨⟨nmi, AD, LD.length, cD⟩, rfl, ⟨rfl, hfl.symm, hnsz, by rw [show (⟨nmi, lx⟩ : Pr).body = lx from rfl, hfl]; exact HLC.out.1, HLC.out.2, r10.sub (fun b h => ⟨h.1, by have := h.2; omega⟩)⟩, (GD.out.cap.shp sh10).sub (fun b h => ⟨h.1, by have := h.2; omega⟩)⟩
     have KW10 : Hid (Keep (fun b => b < wr.heap.size ∧ b ≠ p) wr w10) := qh (PD.out.trans (⟨kp10.os, kp10.tape, kp10.output, kp10.size, kp10.block⟩ : Keep _ wD w10) (fun b hb h => ⟨fun hf => by have := hf.1; omega, h.2⟩))
     have b10 := kp10.cellEq (p := ⟨bx, 2, none⟩) ⟨fun h => by have : wr.heap.size ≤ bx := h.1; omega, by show bx ≠ p; omega⟩ b2
     have n10 := kp10.cellEq (p := ⟨nb, acc.length, none⟩) ⟨fun h => by have : wr.heap.size ≤ nb := h.1; omega, by show nb ≠ p; omega⟩ n0
     have BX10 : Hid (w10.heap[bx]? = some (.cells #[.slice (some ⟨gb, 0, none⟩) 4 4, .slice (some ⟨lb, 0, none⟩) 3 3, .slice pA acc.length pc] 27 (0, 0))) := qh ((kp10.block bx (by show bx < wD.heap.size; omega) ⟨fun h => by have := h.1; omega, by omega⟩).trans BXW.out)
     have K10 := qh k10
     clear FX r10 k10 kp10 sh10 hfx b2 n0
     refine hK.out _ _ (fun _ => ⟨b10, n10⟩) ?_
     clear hK K hHeld
     have hHeld : w10.cell? ⟨bx, 2, none⟩ = some (.slice pA acc.length pc) ∧ w10.cell? ⟨nb, acc.length, none⟩ = some (.string nmi) := ⟨b10, n10⟩
     try simp only [Act.put, layS, layZ, layC]
     refine skT 11 ?_
     refine wpSk_step (i := 12) (by kernel_rfl) rfl (fun K hK => ?_)
     go_simp
     have b12 : (w10.alloc (.cells #[.string nmi, .slice AD LD.length cD] 40)).cell? ⟨bx, 2, none⟩ = some (.slice pA acc.length pc) := (World.cell?_alloc_lt _ _ _ (by show bx < _; omega)).trans b10
     have n12 : (w10.alloc (.cells #[.string nmi, .slice AD LD.length cD] 40)).cell? ⟨nb, acc.length, none⟩ = some (.string nmi) := (World.cell?_alloc_lt _ _ _ (by show nb < _; omega)).trans n10
     refine hK.out _ _ (fun _ => ⟨b12, n12⟩) ?_
     clear hK K hHeld
     try simp only [Act.put, layS, layZ, layC]
     obtain ⟨cs, GG, hat⟩ := GR.out
     have HAT := qh hat
     have OWX := qh ((hat.keep PrG.keepP KW10.out (by intro b hb hb2 _; exact ⟨hb2, by omega⟩)).ow)
     clear hat
     refine wpSk_step (i := 13) (by kernel_rfl) rfl (fun K hK => ?_)
     refine step_appG _ prT (by rfl) _ _ (by rfl) (by rfl) (OWX.out.own.alloc _) _ 1 1 [.string nmi, .slice AD LD.length cD] (by rfl) (Rd.new _ 2 1 _ _ rfl) (by simp [Value.oneCell']) (by omega) (by decide) ?_
     intro v13 w13 own13 gr13
     have GZ : Hid (Grew (.slice pA acc.length pc) v13 w10 w13) := qh ((Grew.of_below (Below.alloc (Below.refl _ _) (Nat.le_refl _) _)).trans gr13)
     have GX13 : Hid (GrwX PrG 40 2 w1.heap.size (fun _ => False) w13 v13 (acc ++ [(⟨nmi, lx⟩ : Pr)])) := qh (grwx_app PrG.keepP (S := fun b => b < wr.heap.size ∧ b ≠ p) HAT.out KW10.out (by intro b hb hb2 _; exact ⟨hb2, by omega⟩) rfl HPR.out (by intro b h; exact ⟨h.1, h.2, fun h => h⟩) (fun b _ h => h) own13 GZ.out)
     obtain ⟨acc', hacc⟩ : ∃ a', a' = acc ++ [(⟨nmi, lx⟩ : Pr)] := ⟨_, rfl⟩
     have HACC := qh hacc
     have hal : acc'.length = acc.length + 1 := by rw [hacc]; simp
     have HAL := qh hal
     rw [← hacc] at GX13
     clear hacc hal
     have hnb : ∀ b, b < w1.heap.size → (Value.slice pA acc.length pc).ownBlock ≠ some b := fun b hb e => by have := HAT.out.ow.lt b e; omega
     have BK13 : Hid (Keep (fun b => b < w1.heap.size) w10 w13) := qh (GZ.out.keep.mono fun b _ hb => hnb b hb)
     have b13 := BK13.out.cellEq (p := ⟨bx, 2, none⟩) (by show bx < _; omega) b10
     have n13 := BK13.out.cellEq (p := ⟨nb, acc.length, none⟩) (by show nb < _; omega) n10
     have BX13 : Hid (w13.heap[bx]? = some (.cells #[.slice (some ⟨gb, 0, none⟩) 4 4, .slice (some ⟨lb, 0, none⟩) 3 3, .slice pA acc.length pc] 27 (0, 0))) := qh ((BK13.out.block bx (by omega) (by omega)).trans BX10.out)
     have K13 : Hid (CurAt w13 p A c code k5) := qh ⟨(BK13.out.block p (lt_of_block K10.out.at') (by omega)).trans K10.out.at', K10.out.le⟩
     have hz13 : w10.heap.size ≤ w13.heap.size := BK13.out.size
     have KW13 : Hid (Keep (fun b => b < w1.heap.size ∧ b ≠ p) wr w13) := qh ((KW10.out.mono (fun b _ (h : b < w1.heap.size ∧ b ≠ p) => ⟨by have := h.1; omega, h.2⟩)).trans BK13.out (fun b _ h => h.1))
     obtain ⟨-, A13, c13, rfl, hA13, hc13⟩ : v13 = v13 ∧ ∃ A c, v13 = .slice A acc'.length c ∧ acc'.length ≤ c ∧ c ≤ maxLen := ⟨rfl, GX13.out.slice⟩
     refine hK.out _ _ (fun _ => ⟨b13, n13⟩) ?_
     clear hK K own13 gr13 b10 n10 b12 n12
     try simp only [Act.put, layS, layZ, layC]
     have hHeld : w13.cell? ⟨bx, 2, none⟩ = some (.slice pA acc.length pc) ∧ w13.cell? ⟨nb, acc.length, none⟩ = some (.string nmi) := ⟨b13, n13⟩
     refine skT 14 ?_
     clear hHeld
     have f13 : w13.frozen? ⟨bx, 2, none⟩ = false := (cells3 BX13.out).2.2.2
     refine wpSk_step (i := 15) (by kernel_rfl) rfl (fun K hK => ?_)
     go_simp
     refine hK.out _ _ (fun h => absurd h (by decide)) ?_
     clear hK K
     refine wpSk_done (by kernel_rfl) ?_ _
     have HNEW : Hid (prsD code ns (N - acc'.length) acc' k5 = FIN) := qh (by
      have hq := PR.out
      have hal := HAL.out
      rw [show N - acc.length = (N - acc'.length) + 1 by omega, prsD_more HBD.out] at hq
      have hns : ns[acc.length]?.getD ByteArray.empty = nmi := by rw [HNL.out.2, List.getElem?_take, if_pos hlt, HNMI.out, List.getElem?_eq_getElem (by exact hi4)]; rfl
      rw [hns, ← HACC.out] at hq
      exact hq)
     go_wp2_with fail
     go_roundw
     case rel =>
      refine ⟨acc', k5, by have := HAL.out; omega, by rw [HAL.out]; go_num, qh ⟨_, ?_, GX13.out.keep PrG.keepP (Keep.setCell (S := fun b => b ≠ bx) (p := ⟨bx, 2, none⟩) (Keep.refl _ _) (fun h => h rfl) _) (fun b hb _ _ => by omega), K13.out.setNew (a := ⟨bx, 2, none⟩) (by show bx ≠ p; omega) _, ((KP.out.trans KW13.out (fun b hb h => ⟨h.1, h.2.1⟩)).setCell (p := ⟨bx, 2, none⟩) (fun h => h.2.2 rfl) _), HNEW.out⟩⟩
      rw [heap_setCell_same w13 bx 2 _ _ _ BX13.out]; rfl
     case measure => have := HAL.out; simp [intOf]; omega
end Go.Proofs.YtnmblfonmfjoeaaGreatDoor
