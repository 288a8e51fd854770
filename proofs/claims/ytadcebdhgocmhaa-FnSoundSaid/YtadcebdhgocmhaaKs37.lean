/- Several texts in one: FxPr. -/
import Derived.Test.YtadcebdhgocmhaaKs35
import Derived.Test.YtadcebdhgocmhaaKs36
namespace Go.Proofs.Ytadcebdhgocmhaa
open Go.RowKit
set_option linter.unusedVariables false


/-- a procedure whose body's block is its own -/
def PrG (w : World) (G : Nat → Prop) (cells : List Value) (p : Pr) : Prop := ∃ x : V2, cells = x.cells ∧ PrO w G x p ∧ CapO w G x.A x.m x.c
theorem PrG.keepP : KeepsP PrG := fun w w' G cells p ⟨x, e, h, hc⟩ hk => ⟨x, e, h.keep hk, hc.keep hk⟩
def glA : Array Value := #[.string ⟨#[120]⟩, .string ⟨#[121]⟩, .string ⟨#[122]⟩, .string ⟨#[117]⟩]
def loA : Array Value := #[.string ⟨#[97]⟩, .string ⟨#[98]⟩, .string ⟨#[109]⟩]
def nmA : Array Value := #[.string ⟨#[109, 97, 105, 110]⟩, .string ⟨#[112]⟩, .string ⟨#[113]⟩, .string ⟨#[114]⟩]
/-- a drawn program, in blocks from lo on -/
structure DrP (lo : Nat) (w : World) (gb lb b0 : Nat) (v : Value) (l : List Pr) : Prop where
  h1 : lo ≤ gb
  h2 : gb < lb
  h3 : lb < b0
  hg : w.heap[gb]? = some (.cells glA 9 (0, 0))
  hl : w.heap[lb]? = some (.cells loA 9 (0, 0))
  hp : GrwX PrG 31 2 b0 (fun _ => False) w v l
def RetPg (w : World) (p : Nat) (A : Option Addr) (c : Nat) (code : List UInt8) (l : List Pr) (k : Cur) (e : Ending) (w' : World) : Prop :=
  ∃ gb lb b0 pA pc, e = .returned (.agg #[.slice (some ⟨gb, 0, none⟩) 4 4, .slice (some ⟨lb, 0, none⟩) 3 3, .slice pA l.length pc]) ∧ l.length ≤ pc ∧ pc ≤ maxLen ∧ DrP w.heap.size w' gb lb b0 (.slice pA l.length pc) l ∧ CurAt w' p A c code k ∧ Keep (fun b => b ≠ p) w w'
theorem spnS_zero_yes {code : List UInt8} {ns : List ByteArray} {l : List St} {k k1 : Cur} {z : Int} (h : belowD code 2 k = (z, k1)) (hz : z = 0) : spnS code ns 0 l k = ([spawnS (ns[1]?.getD ByteArray.empty)] ++ l, k1) := by
  unfold spnS; rw [if_pos rfl]; simp only [h]; rw [if_pos hz]
theorem spnS_zero_no {code : List UInt8} {ns : List ByteArray} {l : List St} {k k1 : Cur} {z : Int} (h : belowD code 2 k = (z, k1)) (hz : ¬ z = 0) : spnS code ns 0 l k = (l, k1) := by
  unfold spnS; rw [if_pos rfl]; simp only [h]; rw [if_neg hz]
theorem spnS_more {code : List UInt8} {ns : List ByteArray} {i : Nat} {l : List St} {k : Cur} (h : i ≠ 0) : spnS code ns i l k = (l, k) := by unfold spnS; rw [if_neg h]
theorem grdS_yes {code : List UInt8} {l r : List St} {k k1 k2 : Cur} {z : Int} (h : belowD code 2 k = (z, k1)) (hz : z = 0) (hg : guardS code l k1 = (r, k2)) : grdS code l k = (r, k2) := by
  unfold grdS; simp only [h]; rw [if_pos hz, hg]
theorem grdS_no {code : List UInt8} {l : List St} {k k1 : Cur} {z : Int} (h : belowD code 2 k = (z, k1)) (hz : ¬ z = 0) : grdS code l k = (l, k1) := by
  unfold grdS; simp only [h]; rw [if_neg hz]
theorem twoS_of {code : List UInt8} {l1 l2 : List St} {k k1 k2 : Cur} (h1 : lstS code (stS code 2) k = (l1, k1)) (h2 : lstS code (stS code 1) k1 = (l2, k2)) : twoS code k = (l1 ++ l2, k2) := by
  unfold twoS; simp only [h1, h2]
theorem bdyD_of {code : List UInt8} {ns : List ByteArray} {i : Nat} {k k2 k3 k4 k5 : Cur} {l0 l1 l2 l3 l4 : List St} (h1 : twoS code k = (l0, k2)) (h2 : rawS l0 = l1) (h3 : grdS code l1 k2 = (l2, k3)) (h4 : spnS code ns i l2 k3 = (l3, k4)) (h5 : fixGs code (ns.drop 1) l3 k4 = (l4, k5)) : bdyD code ns i k = (l4, k5) := by
  unfold bdyD; simp only [h1, h2, h3, h4, h5]
theorem prsD_more {code : List UInt8} {ns : List ByteArray} {f : Nat} {acc : List Pr} {k k1 : Cur} {b : List St} (h : bdyD code ns acc.length k = (b, k1)) : prsD code ns (f + 1) acc k = prsD code ns f (acc ++ [⟨ns[acc.length]?.getD ByteArray.empty, b⟩]) k1 := by
  rw [prsD]; simp only [h]
theorem guardS_len (code : List UInt8) (l : List St) (k : Cur) : (guardS code l k).1.length ≤ l.length + 3 := by
  unfold guardS; repeat' split
  all_goals simp only [List.length_append, List.length_cons, List.length_nil]; omega
theorem grwO_cap {base : Nat} {w : World} {A : Option Addr} {c : Nat} {l : List St} (h : GrwO base w (.slice A l.length c) l) : l.length ≤ c ∧ c ≤ maxLen := by
  obtain ⟨A', c', e, h1, h2⟩ := h.slice
  injection e with _ _ e
  subst e
  exact ⟨h1, h2⟩
theorem rd_nm {w : World} {nb N : Nat} (h : w.heap[nb]? = some (.cells nmA 9 (0, 0))) : Rd w.drew 1 (some ⟨nb, 1, none⟩) ((nmD.take N).drop 1).length (((nmD.take N).drop 1).map Value.string) := by
  refine ⟨by simp, fun hn => ⟨nb, 1, rfl, fun j u hu => ?_⟩⟩
  show w.cell? _ = _
  rw [Lib.cell_of_heap h]
  have e : nmA = (nmD.map Value.string).toArray := rfl
  rw [e, List.getElem?_toArray, List.getElem?_map]
  rw [List.getElem?_map, List.getElem?_drop, List.getElem?_take] at hu
  split at hu
  · exact hu
  · cases hu
theorem rd_lt {w : World} {n b off : Nat} {A : Option Addr} {xs : List Value} (h : Rd w 1 A n xs) (e : A = some ⟨b, off, none⟩) (hn : 0 < n) : b < w.heap.size := by
  obtain ⟨b', off', e', hc⟩ := h.2 hn
  rw [e] at e'
  injection e' with e'
  injection e' with e1 e2
  subst e1 e2
  have hl := h.1
  exact cell_lt (hc 0 xs[0] (List.getElem?_eq_getElem (by omega)))
theorem nmD_sz : ∀ s ∈ nmD, s.size ≤ maxLen := by unfold maxLen; decide
theorem nmA_get {i : Nat} (h : i < 4) : nmA[i]? = some (.string (nmD[i]'h)) := by
  match i, h with
  | 0, _ => rfl
  | 1, _ => rfl
  | 2, _ => rfl
  | 3, _ => rfl
theorem five {w : World} {o0 o1 o2 o3 o4 : Obj} : (((((w.alloc o0).alloc o1).alloc o2).alloc o3).alloc o4).heap[w.heap.size]? = some o0 ∧ (((((w.alloc o0).alloc o1).alloc o2).alloc o3).alloc o4).heap[w.heap.size + 1]? = some o1 ∧ (((((w.alloc o0).alloc o1).alloc o2).alloc o3).alloc o4).heap[w.heap.size + 1 + 1]? = some o2 ∧ (((((w.alloc o0).alloc o1).alloc o2).alloc o3).alloc o4).heap[w.heap.size + 1 + 1 + 1]? = some o3 ∧ (((((w.alloc o0).alloc o1).alloc o2).alloc o3).alloc o4).heap[w.heap.size + 1 + 1 + 1 + 1]? = some o4 := by
  have z : ∀ (W : World) (o : Obj), (W.alloc o).heap.size = W.heap.size + 1 := fun W o => by simp
  have n : ∀ (W : World) (o : Obj) (k : Nat), k = W.heap.size → (W.alloc o).heap[k]? = some o := fun W o k e => by rw [e]; exact heap_alloc_new W o
  refine ⟨?_, ?_, ?_, ?_, ?_⟩
  · rw [heap_alloc_lt (by simp only [z]; omega), heap_alloc_lt (by simp only [z]; omega), heap_alloc_lt (by simp only [z]; omega), heap_alloc_lt (by simp only [z]; omega)]; exact n _ _ _ rfl
  · rw [heap_alloc_lt (by simp only [z]; omega), heap_alloc_lt (by simp only [z]; omega), heap_alloc_lt (by simp only [z]; omega)]; exact n _ _ _ (by simp only [z])
  · rw [heap_alloc_lt (by simp only [z]; omega), heap_alloc_lt (by simp only [z]; omega)]; exact n _ _ _ (by simp only [z])
  · rw [heap_alloc_lt (by simp only [z]; omega)]; exact n _ _ _ (by simp only [z])
  · exact n _ _ _ (by simp only [z])
theorem cells3 {w : World} {g : Nat} {a0 a1 a2 : Value} {T : TypeId} (h : w.heap[g]? = some (.cells #[a0, a1, a2] T (0, 0))) :
    (w.cell? ⟨g, 0, none⟩ = some a0 ∧ w.cell? ⟨g, 1, none⟩ = some a1 ∧ w.cell? ⟨g, 2, none⟩ = some a2) ∧ w.frozen? ⟨g, 0, none⟩ = false ∧ w.frozen? ⟨g, 1, none⟩ = false ∧ w.frozen? ⟨g, 2, none⟩ = false := by
  refine ⟨⟨?_, ?_, ?_⟩, ?_, ?_, ?_⟩
  all_goals first | exact Lib.frozen_of_heap h _ | (rw [Lib.cell_of_heap h]; rfl)
set_option maxHeartbeats 6400000 in
set_option maxRecDepth 100000 in
theorem spec_l05Prog (p : Nat) (A : Option Addr) (c : Nat) (code : List UInt8) (k : Cur) (w : World) (rd : Rd w 1 A code.length (bv code)) (hl : code.length ≤ 1048576) (hc : c ≤ maxLen) (hk : CurAt w p A c code k) :
    Calls Try.prog 24 #[.pointer (some ⟨p, 0, none⟩)] w (RetPg w p A c code (pgD code k).1.procs (pgD code k).2) := by
  have RD := Lib.hid rd
  have HK := Lib.hid hk
  have hpl := lt_of_block hk.at'
  have hbd := belowD_bd code (n := 3) (by decide) k
  have PE : Hid ((pgD code k).1.procs = (prsD code (nsD (belowD code 3 k).1) (nsD (belowD code 3 k).1).length [] (belowD code 3 k).2).1 ∧ (pgD code k).2 = (prsD code (nsD (belowD code 3 k).1) (nsD (belowD code 3 k).1).length [] (belowD code 3 k).2).2) := Lib.hid ⟨rfl, rfl⟩
  rw [PE.out.1, PE.out.2]
  clear PE
  obtain ⟨xk, hx⟩ : ∃ xk, xk = belowD code 3 k := ⟨_, rfl⟩
  rw [← hx] at hbd ⊢
  obtain ⟨x, kx⟩ := xk
  have HX := Lib.hid hx.symm
  simp only at hbd ⊢
  clear hx
  have HNS : Hid (nsD x = nmD.take (2 + x).toNat ∧ (nsD x).length = (2 + x).toNat) := Lib.hid ⟨rfl, by unfold nsD; rw [List.length_take]; have : nmD.length = 4 := rfl; omega⟩
  generalize hRR : RetPg w p A c code (prsD code (nsD x) (nsD x).length [] kx).1 (prsD code (nsD x) (nsD x).length [] kx).2 = RR
  have HRet : Hid (∀ gb lb b0 pA pc l w' k', prsD code (nsD x) (nsD x).length [] kx = (l, k') → l.length ≤ pc → pc ≤ maxLen → DrP w.heap.size w' gb lb b0 (.slice pA l.length pc) l → CurAt w' p A c code k' → Keep (fun b => b ≠ p) w w' → RR (.returned (.agg #[.slice (some ⟨gb, 0, none⟩) 4 4, .slice (some ⟨lb, 0, none⟩) 3 3, .slice pA l.length pc])) w') := Lib.hid (fun gb lb b0 pA pc l w' k' e h1 h2 h3 h4 h5 => by rw [← hRR, e]; exact ⟨gb, lb, b0, pA, pc, rfl, h1, h2, h3, h4, h5⟩)
  clear hRR rd hk
  go_enter Try.func24, Try.ntmps24
  go_wp2_with fail
  generalize hW : World.alloc _ _ = WW
  have hszW : WW.heap.size = w.heap.size + 1 + 1 + 1 + 1 + 1 := by rw [← hW]; simp
  have HRB : Hid (WW.heap[w.heap.size]? = some (.cells #[.slice none 0 0, .slice none 0 0, .slice none 0 0] 27 (0, 0))) := Lib.hid (by rw [← hW]; exact five.1)
  have HGB : Hid (WW.heap[w.heap.size + 1]? = some (.cells glA 9 (0, 0))) := Lib.hid (by rw [← hW]; exact five.2.1)
  have HLB : Hid (WW.heap[w.heap.size + 1 + 1]? = some (.cells loA 9 (0, 0))) := Lib.hid (by rw [← hW]; exact five.2.2.1)
  have HBX : Hid (WW.heap[w.heap.size + 1 + 1 + 1]? = some (.cells #[.slice (some ⟨w.heap.size + 1, 0, none⟩) 4 4, .slice (some ⟨w.heap.size + 1 + 1, 0, none⟩) 3 3, .slice none 0 0] 27 (0, 0))) := Lib.hid (by rw [← hW]; exact five.2.2.2.1)
  have HNB : Hid (WW.heap[w.heap.size + 1 + 1 + 1 + 1]? = some (.cells nmA 9 (0, 0))) := Lib.hid (by rw [← hW]; exact five.2.2.2.2)
  have KWW : Hid (Keep (fun b => b ≠ p) w WW) := Lib.hid (by rw [← hW]; exact ((((((Keep.refl _ _).alloc _).alloc _).alloc _).alloc _).alloc _))
  have CW : Hid (CurAt WW p A c code k) := Lib.hid (by rw [← hW]; exact HK.out.keep (by repeat' (first | exact Below.refl _ _ | exact Nat.le_refl _ | (refine Below.alloc ?_ ?_ _) | (refine Below.setCell ?_ ?_ _) | (refine Below.drew ?_) | (refine below_drewN ?_ _) | assumption | (simp; done) | (simp; omega))))
  have RW : Hid (Rd WW 1 A code.length (bv code)) := Lib.hid (rd_apart RD.out HK.out KWW.out)
  clear hW
  refine (spec_l01Below 3 p A c code k _ RW.out hl hc CW.out (by omega)).mono ?_
  rintro e w1 ⟨rfl, k1, kp1⟩
  rw [HX.out] at k1
  rw [HX.out]
  simp only at k1
  obtain ⟨hx0, hx3⟩ := hbd
  have hn2 : 2 ≤ (2 + x).toNat := by omega
  have hn4 : (2 + x).toNat ≤ 4 := by omega
  go_wp2_with fail
  generalize hnn : (2 + x).toNat = N at *
  generalize hbn : w.heap.size + 1 + 1 + 1 + 1 = nb at *
  generalize hbb : w.heap.size + 1 + 1 + 1 = bx at *
  generalize hbl : w.heap.size + 1 + 1 = lb at *
  generalize hbg : w.heap.size + 1 = gb at *
  have hord : w.heap.size < gb ∧ gb < lb ∧ lb < bx ∧ bx < nb ∧ nb < WW.heap.size := by omega
  obtain ⟨ho1, ho2, ho3, ho4, ho5⟩ := hord
  have hws := kp1.size
  have KB1 : Hid (w1.heap[bx]? = some (.cells #[.slice (some ⟨gb, 0, none⟩) 4 4, .slice (some ⟨lb, 0, none⟩) 3 3, .slice none 0 0] 27 (0, 0))) := Lib.hid ((kp1.block bx (by omega) (by omega)).trans HBX.out)
  have NB1 : Hid (w1.heap[nb]? = some (.cells nmA 9 (0, 0))) := Lib.hid ((kp1.block nb (by omega) (by omega)).trans HNB.out)
  have GB1 : Hid (w1.heap[gb]? = some (.cells glA 9 (0, 0))) := Lib.hid ((kp1.block gb (by omega) (by omega)).trans HGB.out)
  have LB1 : Hid (w1.heap[lb]? = some (.cells loA 9 (0, 0))) := Lib.hid ((kp1.block lb (by omega) (by omega)).trans HLB.out)
  have RB1 : Hid (w1.heap[w.heap.size]? = some (.cells #[.slice none 0 0, .slice none 0 0, .slice none 0 0] 27 (0, 0))) := Lib.hid ((kp1.block w.heap.size (by omega) (by omega)).trans HRB.out)
  have K1 := Lib.hid k1
  have P1 : Hid (Keep (fun b => b ≠ p) w w1) := Lib.hid (KWW.out.trans kp1 (fun _ _ h => h))
  have R1 := Lib.hid (rd_apart RD.out HK.out P1.out)
  have hb0 : nb < w1.heap.size := by omega
  have HNL : Hid ((nsD x).length = N ∧ nsD x = nmD.take N) := Lib.hid ⟨HNS.out.2, HNS.out.1⟩
  generalize hns : nsD x = ns at *
  clear hns k1 kp1 hszW HRB HGB HLB HBX HNB KWW CW RW hnn hbn hbb hbl hbg ho5 hws HNS HX hx0 hx3
  generalize hFIN : prsD code ns ns.length [] kx = FIN at *
  have HF0 : Hid (prsD code ns N [] kx = FIN) := Lib.hid (by rw [← hFIN, HNL.out.1])
  clear hFIN
  go_loopw [5] (fun i wr => ∃ (acc : List Pr) (kc : Cur), acc.length ≤ N ∧ i = .int .i64 (acc.length : Int) ∧ Hid (∃ v, wr.heap[bx]? = some (.cells #[.slice (some ⟨gb, 0, none⟩) 4 4, .slice (some ⟨lb, 0, none⟩) 3 3, v] 27 (0, 0)) ∧ GrwX PrG 31 2 w1.heap.size (fun _ => False) wr v acc ∧ CurAt wr p A c code kc ∧ Keep (fun b => b < w1.heap.size ∧ b ≠ p ∧ b ≠ bx) w1 wr ∧ prsD code ns (N - acc.length) acc kc = FIN)) (fun i _ => 5 - (intOf i).toNat)
  case atStart => exact ⟨[], kx, by simp, rfl, Lib.hid ⟨.slice none 0 0, KB1.out, GrwX.nil (Nat.le_refl _), K1.out, Keep.refl _ _, by simpa using HF0.out⟩⟩
  case round =>
    obtain ⟨acc, kc, hj, rfl, HR⟩ := hrel
    obtain ⟨v, hbx, hgr, hcu, hkp, hpr⟩ := HR.out
    obtain ⟨pA, pc, rfl, hpc1, hpc2⟩ := hgr.slice
    have BX := Lib.hid hbx
    have GR := Lib.hid hgr
    have CU := Lib.hid hcu
    have KP := Lib.hid hkp
    have PR := Lib.hid hpr
    have hzr := hkp.size
    have hpw := lt_of_block hcu.at'
    have KW : Hid (Keep (fun b => b ≠ p) w wr) := Lib.hid (P1.out.trans hkp (fun b hb h => ⟨by omega, h, by omega⟩))
    have RR' := Lib.hid (rd_apart RD.out HK.out KW.out)
    have hpr' := P1.out.size
    clear hbx hgr hcu hkp hpr HR
    by_cases hlt : acc.length < N
    case neg =>
      have RBr : Hid (wr.heap[w.heap.size]? = some (.cells #[.slice none 0 0, .slice none 0 0, .slice none 0 0] 27 (0, 0))) := Lib.hid ((KP.out.block w.heap.size (by omega) ⟨by omega, by omega, by omega⟩).trans RB1.out)
      obtain ⟨⟨a0, a1, a2⟩, e0, e1, e2⟩ := cells3 BX.out
      obtain ⟨⟨r0, r1, r2⟩, f0, f1, f2⟩ := cells3 RBr.out
      go_wp2_with fail
      refine bodyPost_ret (v := .agg #[.slice (some ⟨gb, 0, none⟩) 4 4, .slice (some ⟨lb, 0, none⟩) 3 3, .slice pA acc.length pc]) (by simp [results, Try.results24, go_sem, a0, a1, a2, r0, r1, r2]) rfl ?_
      have hN : N - acc.length = 0 := by omega
      have hfin := PR.out
      rw [hN, prsD] at hfin
      have ks : Keep (fun b => b ≠ w.heap.size) wr (((wr.setCell ⟨w.heap.size, 0, none⟩ (.slice (some ⟨gb, 0, none⟩) 4 4)).setCell ⟨w.heap.size, 1, none⟩ (.slice (some ⟨lb, 0, none⟩) 3 3)).setCell ⟨w.heap.size, 2, none⟩ (.slice pA acc.length pc)) := (((Keep.refl _ _).setCell (p := ⟨w.heap.size, 0, none⟩) (fun h => h rfl) _).setCell (p := ⟨w.heap.size, 1, none⟩) (fun h => h rfl) _).setCell (p := ⟨w.heap.size, 2, none⟩) (fun h => h rfl) _
      refine HRet.out gb lb w1.heap.size pA pc acc _ kc hfin.symm hpc1 hpc2 ⟨by omega, ho2, by omega, ?_, ?_, GR.out.keep PrG.keepP ks (fun b hb _ _ => by omega)⟩ (((CU.out.setNew (a := ⟨w.heap.size, 0, none⟩) (by show w.heap.size ≠ p; omega) _).setNew (a := ⟨w.heap.size, 1, none⟩) (by show w.heap.size ≠ p; omega) _).setNew (a := ⟨w.heap.size, 2, none⟩) (by show w.heap.size ≠ p; omega) _) (KW.out.trans ks (fun b hb _ => by omega))
      · rw [ks.block gb (by omega) (by omega), KP.out.block gb (by omega) ⟨by omega, by omega, by omega⟩]; exact GB1.out
      · rw [ks.block lb (by omega) (by omega), KP.out.block lb (by omega) ⟨by omega, by omega, by omega⟩]; exact LB1.out
    have NBr : Hid (wr.heap[nb]? = some (.cells nmA 9 (0, 0))) := Lib.hid ((KP.out.block nb (by omega) ⟨by omega, by omega, by omega⟩).trans NB1.out)
    have hi0 : (0 : Int) ≤ (acc.length : Int) := by omega
    have hi4 : acc.length < 4 := by omega
    go_wp2_with fail
    refine (spec_l04ListG 2 (by omega) p A c code kc _ RR'.out hl hc CU.out).mono ?_
    rintro e w2 ⟨A2, c2, rfl, ha2, hc2, g2, k2, kp2⟩
    have hl1 := lstS_len (code := code) (one := stS code 2) kc
    generalize hd1 : lstS code (stS code 2) kc = r1 at *
    obtain ⟨l1, ka⟩ := r1
    simp only at ha2 g2 k2 hl1
    have HD1 := Lib.hid hd1
    have G2 := Lib.hid g2
    have K2 := Lib.hid k2
    have P2 := Lib.hid kp2
    have R2 := Lib.hid (rd_apart RR'.out CU.out kp2)
    have hz2 := kp2.size
    clear hd1 g2 k2 kp2
    go_wp2_with fail
    refine (spec_l04ListG 1 (by omega) p A c code ka _ R2.out hl hc K2.out).mono ?_
    rintro e w3 ⟨A3, c3, rfl, ha3, hc3, g3, k3, kp3⟩
    have hl2 := lstS_len (code := code) (one := stS code 1) ka
    generalize hd2 : lstS code (stS code 1) ka = r2 at *
    obtain ⟨l2, kb⟩ := r2
    simp only at ha3 g3 k3 hl2
    have HTW := Lib.hid (twoS_of HD1.out hd2)
    have K3 := Lib.hid k3
    have P3 := Lib.hid (P2.out.trans kp3 (fun _ _ h => h))
    have Q3 := Lib.hid kp3
    have hz3 := kp3.size
    obtain ⟨ys, GY, hyl, ry, hy⟩ := stRowO_to g3.rowB
    have RY := Lib.hid ry
    have HY := Lib.hid hy
    have HYL := Lib.hid hyl
    have YRD := Lib.hid ry.1
    clear hd2 g3 k3 kp3 ry hy hyl HD1 K2 R2
    obtain ⟨xs7, G7, hxl7, ow7, hG7, hd7, hx7⟩ := G2.out
    have OW7 := Lib.hid ow7.own
    have OX7 := Lib.hid ow7
    have HX7 := Lib.hid (And.intro hxl7 (And.intro hG7 (And.intro hd7 hx7)))
    clear ow7 hxl7 hG7 hd7 hx7
    have OWK := Lib.hid (OX7.out.keep Q3.out (fun b hb => by have := (OX7.out.lt b hb).1; omega)).own
    go_wp2_with (at_builtin; first | (refine wpList_appG rfl _ _ _ rfl sgT rfl OWK.out A3 l2.length c3 (ys.flatMap V8.cells) rfl YRD.out (v8_one ys) (by simp only [maxLen]; omega) (by omega) ?_; intro v4 w4 own4 gr4; have GN4 : Hid (GrwO wr.heap.size w4 v4 (l1 ++ l2)) := Lib.hid (grw_cat (S := fun b => b ≠ p) HX7.out.1 OX7.out HX7.out.2.1 HX7.out.2.2.1 HX7.out.2.2.2 (Nat.le_refl _) Q3.out (fun b hb _ => by omega) HYL.out RY.out HY.out (fun b hb => ⟨by have := hb.1; omega, hb.2, fun h => by have := hb.1; have := h.2; omega⟩) own4 gr4); have BG4 : Hid (Keep (fun b => b < wr.heap.size) w3 w4) := Lib.hid (gr4.keep.mono fun b _ hb e => by have := OX7.out.lt b e; omega); have LA4 : v4 = v4 ∧ ∃ A c, v4 = .slice A (l1 ++ l2).length c ∧ (l1 ++ l2).length ≤ c ∧ c ≤ maxLen := ⟨rfl, GN4.out.slice⟩; obtain ⟨-, A4, c4, rfl, hA4, hc4⟩ := LA4; obtain ⟨L4, hL4⟩ : ∃ L', L' = l1 ++ l2 := ⟨_, rfl⟩; have hlL4 : L4.length ≤ l1.length + l2.length := (by rw [hL4, List.length_append]; omega); have HL4 := Lib.hid hL4; rw [← hL4] at GN4 hA4 ⊢; clear hL4 own4 gr4))
    have K4 : Hid (CurAt w4 p A c code kb) := Lib.hid ⟨by rw [BG4.out.block p (lt_of_block K3.out.at') hpw]; exact K3.out.at', K3.out.le⟩
    have P4 : Hid (Keep (fun b => b < wr.heap.size ∧ b ≠ p) wr w4) := Lib.hid ((P3.out.mono (fun b _ (h : b < wr.heap.size ∧ b ≠ p) => h.2)).trans BG4.out (fun b _ h => h.1))
    have hz4 : wr.heap.size ≤ w4.heap.size := P4.out.size
    clear K3 P3 Q3 BG4 P2 G2
    refine (spec_l04Count L4 A4 c4 50 _ GN4.out.rowB.any hA4 hc4 (by omega) (by omega)).mono ?_
    rintro e w5 ⟨rfl, q5⟩
    have b5 := q5.below
    have G5 := Lib.hid (GN4.out.below b5)
    have K5 := Lib.hid (K4.out.keep b5)
    have P5 : Hid (Keep (fun b => b < wr.heap.size ∧ b ≠ p) wr w5) := Lib.hid (P4.out.trans (Keep.of_below (S := fun b => b < wr.heap.size ∧ b ≠ p) b5) (fun _ _ h => h))
    have hz5 : wr.heap.size ≤ w5.heap.size := P5.out.size
    clear q5 b5 GN4 K4 P4
    by_cases hcnt : snodess L4 ≤ 50
    · have HC := Lib.hid (cut0_pos (n := (50 : Int) - (snodess L4 : Int)) (by omega))
      have hn : ¬ ((50 : Int) - (snodess L4 : Int) < 0) := by omega
      have HRAW : Hid (rawS (l1 ++ l2) = L4) := Lib.hid (by rw [← HL4.out]; unfold rawS; rw [if_pos hcnt])
      rw [HC.out]
      clear HC hcnt
      go_wp2_with fail
      -- STAGE B
      have RBb : Hid (Rd w5 1 A code.length (bv code)) := Lib.hid (rd_apart RR'.out CU.out (P5.out.mono (fun b hb h => ⟨hb, h⟩)))
      refine (spec_l01Once 2 p A c code kb _ RBb.out hl hc K5.out (by omega)).mono ?_
      rintro e w6 ⟨rfl, k6, kp6⟩
      have K6 := Lib.hid k6
      have P6 : Hid (Keep (fun b => b < wr.heap.size ∧ b ≠ p) wr w6) := Lib.hid (P5.out.trans kp6 (fun _ _ h => h.2))
      have G6 := Lib.hid (G5.out.keep kp6 (fun b hb _ => by omega))
      have hz6 : wr.heap.size ≤ w6.heap.size := P6.out.size
      generalize hb6 : belowD code 2 kb = z6 at *
      obtain ⟨z, k6'⟩ := z6
      have HZ6 := Lib.hid hb6
      clear k6 kp6 hb6 RBb K5 P5 G5
      simp only at K6
      by_cases hz : z = 0
      · have hzb : (z == 0) = true := by simp [hz]
        have RB6 : Hid (Rd w6 1 A code.length (bv code)) := Lib.hid (rd_apart RR'.out CU.out (P6.out.mono (fun b hb h => ⟨hb, h⟩)))
        go_wp2_with fail
        refine (spec_l05Guarded wr.heap.size p A c code k6' A4 c4 L4 w6 RB6.out hl hc K6.out hpw G6.out (by omega)).mono ?_
        rintro e w7 ⟨A7, c7, rfl, ha7, hc7, g7, k7, kp7⟩
        have hgl := guardS_len code L4 k6'
        generalize hg7 : guardS code L4 k6' = r7 at *
        obtain ⟨L7, k7'⟩ := r7
        simp only at ha7 g7 k7 hgl
        have HGR := Lib.hid (grdS_yes HZ6.out hz hg7)
        have G7 := Lib.hid g7
        have K7 := Lib.hid k7
        have P7 : Hid (Keep (fun b => b < wr.heap.size ∧ b ≠ p) wr w7) := Lib.hid (P6.out.trans kp7 (fun _ _ h => h))
        have hz7 : wr.heap.size ≤ w7.heap.size := P7.out.size
        clear hg7 g7 k7 kp7 G6 K6 P6 RB6
        -- STAGE C
        by_cases hi : acc.length = 0
        · have hib : ((acc.length : Int) == 0) = true := by simp [hi]
          have RBc : Hid (Rd w7 1 A code.length (bv code)) := Lib.hid (rd_apart RR'.out CU.out (P7.out.mono (fun b hb h => ⟨hb, h⟩)))
          have HI := Lib.hid hi
          clear hi
          go_wp2_with fail
          refine (spec_l01Once 2 p A c code k7' _ RBc.out hl hc K7.out (by omega)).mono ?_
          rintro e w8 ⟨rfl, k8, kp8⟩
          have K8 := Lib.hid k8
          have P8 : Hid (Keep (fun b => b < wr.heap.size ∧ b ≠ p) wr w8) := Lib.hid (P7.out.trans kp8 (fun _ _ h => h.2))
          have G8 := Lib.hid (G7.out.keep kp8 (fun b hb _ => by omega))
          have hz8 : wr.heap.size ≤ w8.heap.size := P8.out.size
          generalize hb8 : belowD code 2 k7' = z8 at *
          obtain ⟨y, k8'⟩ := z8
          have HZ8 := Lib.hid hb8
          clear k8 kp8 hb8 RBc K7 P7 G7
          simp only at K8
          by_cases hy : y = 0
          · have hyb : (y == 0) = true := by simp [hy]
            have HY0 := Lib.hid hy
            clear hy
            have NB8 : Hid (w8.heap[nb]? = some (.cells nmA 9 (0, 0))) := Lib.hid ((P8.out.block nb (by omega) ⟨by omega, by omega⟩).trans NBr.out)
            have n1 : w8.cell? ⟨nb, 1, none⟩ = some (.string ⟨#[112]⟩) := by rw [Lib.cell_of_heap NB8.out]; rfl
            have HNS1 : Hid (ns[1]?.getD ByteArray.empty = ⟨#[112]⟩) := Lib.hid (by rw [HNL.out.2, List.getElem?_take, if_pos (by omega)]; rfl)
            have h1N : (1 : Int) < (N : Int) := by omega
            obtain ⟨ys, GY, hyl, ry, hy⟩ := stRowO_to G8.out.rowB
            have GP : Hid (GrwO w8.heap.size (w8.alloc (.cells #[.int .i64 5, .string ⟨#[112]⟩, .int .i64 0, .int .i64 0, .string ⟨#[]⟩, .slice none 0 0, .slice none 0 0, .slice none 0 0] 36)) (.slice (some ⟨w8.heap.size, 0, none⟩) 1 1) [spawnS ⟨#[112]⟩]) := Lib.hid (grwO_lit ⟨5, ⟨#[112]⟩, 0, 0, ⟨#[]⟩, none, 0, 0, none, 0, 0, none, 0, 0⟩ (spawnS ⟨#[112]⟩) w8 (fun w' => flatO 5 ⟨#[112]⟩ (by unfold i64in; omega) (by simp [maxLen]; decide) w'))
            have RY := Lib.hid (ry.keep (w' := w8.alloc (.cells #[.int .i64 5, .string ⟨#[112]⟩, .int .i64 0, .int .i64 0, .string ⟨#[]⟩, .slice none 0 0, .slice none 0 0, .slice none 0 0] 36)) (fun b hb => heap_alloc_lt hb.2))
            have HY : Hid (∀ i (h : i < L7.length) (h' : i < ys.length), StO (w8.alloc (.cells #[.int .i64 5, .string ⟨#[112]⟩, .int .i64 0, .int .i64 0, .string ⟨#[]⟩, .slice none 0 0, .slice none 0 0, .slice none 0 0] 36)) (GY i) ys[i] L7[i]) := Lib.hid (fun i hi hi' => (hy i hi hi').keep fun b hb => heap_alloc_lt (ry.2.2.1 i b hi hb).2)
            have HYL := Lib.hid hyl
            have YRD := Lib.hid RY.out.1
            clear ry hy hyl
            obtain ⟨LP, hLP⟩ : ∃ L', L' = [spawnS ⟨#[112]⟩] := ⟨_, rfl⟩
            have hlLP : LP.length ≤ 1 := by rw [hLP]; simp
            have HLP := Lib.hid hLP
            rw [← hLP] at GP
            clear hLP
            obtain ⟨xs8, G8, hxl8, ow8, hG8, hd8, hx8⟩ := GP.out
            have OW8 := Lib.hid ow8.own
            have OX8 := Lib.hid ow8
            have HX8 := Lib.hid (And.intro hxl8 (And.intro hG8 (And.intro hd8 hx8)))
            clear ow8 hxl8 hG8 hd8 hx8
            go_wp2_with (at_builtin; first | (refine wpList_appG rfl _ _ _ rfl sgT rfl OW8.out A7 L7.length c7 (ys.flatMap V8.cells) rfl YRD.out (v8_one ys) (by simp only [maxLen]; omega) (by omega) ?_; intro v9 w9 own9 gr9; have GN9 : Hid (GrwO wr.heap.size w9 v9 (LP ++ L7)) := Lib.hid (grw_cat (S := fun _ => True) HX8.out.1 OX8.out HX8.out.2.1 HX8.out.2.2.1 HX8.out.2.2.2 hz8 (Keep.refl _ _) (fun _ _ _ => trivial) HYL.out RY.out HY.out (fun b hb => ⟨hb.1, by have := hb.2; simp; omega, fun h => by have := hb.2; have := h.1; omega⟩) own9 gr9); have BG9 : Hid (Keep (fun b => b < w8.heap.size) w8 w9) := Lib.hid (((Keep.refl (fun b => b < w8.heap.size) w8).alloc _).trans (gr9.keep.mono (S' := fun b => b < w8.heap.size) fun b _ hb e => by have := OX8.out.lt b e; omega) (fun _ _ h => h)); have LA9 : v9 = v9 ∧ ∃ A c, v9 = .slice A (LP ++ L7).length c ∧ (LP ++ L7).length ≤ c ∧ c ≤ maxLen := ⟨rfl, GN9.out.slice⟩; obtain ⟨-, A9, c9, rfl, hA9, hc9⟩ := LA9; obtain ⟨L9, hL9⟩ : ∃ L', L' = LP ++ L7 := ⟨_, rfl⟩; have hlL9 : L9.length ≤ LP.length + L7.length := (by rw [hL9, List.length_append]; omega); have HL9 := Lib.hid hL9; rw [← hL9] at GN9 hA9 ⊢; clear hL9 own9 gr9))
            have K9 : Hid (CurAt w9 p A c code k8') := Lib.hid ⟨by rw [BG9.out.block p (lt_of_block K8.out.at') (by omega)]; exact K8.out.at', K8.out.le⟩
            have P9 : Hid (Keep (fun b => b < wr.heap.size ∧ b ≠ p) wr w9) := Lib.hid (P8.out.trans BG9.out (fun b _ h => by have := h.1; omega))
            have HSP : Hid (spnS code ns acc.length L7 k7' = (L9, k8')) := Lib.hid (by rw [HI.out, spnS_zero_yes HZ8.out HY0.out, HNS1.out, HL9.out, HLP.out])
            have hz9 : wr.heap.size ≤ w9.heap.size := P9.out.size
            -- STAGE D
            have BXW : Hid (w9.heap[bx]? = some (.cells #[.slice (some ⟨gb, 0, none⟩) 4 4, .slice (some ⟨lb, 0, none⟩) 3 3, .slice pA acc.length pc] 27 (0, 0))) := Lib.hid ((P9.out.block bx (by omega) ⟨by omega, by omega⟩).trans BX.out)
            have NBW : Hid (w9.heap[nb]? = some (.cells nmA 9 (0, 0))) := Lib.hid ((P9.out.block nb (by omega) ⟨by omega, by omega⟩).trans NBr.out)
            have RBW : Hid (Rd w9 1 A code.length (bv code)) := Lib.hid (rd_apart RR'.out CU.out (P9.out.mono (fun b hb h => ⟨hb, h⟩)))
            obtain ⟨nmi, hnmi⟩ : ∃ s, s = nmD[acc.length] := ⟨_, rfl⟩
            have HNMI := Lib.hid hnmi
            have hnsz : nmi.size ≤ maxLen := by rw [hnmi]; exact nmD_sz _ (List.getElem_mem _)
            have b2 : w9.drew.cell? ⟨bx, 2, none⟩ = some (.slice pA acc.length pc) := (cells3 BXW.out).1.2.2
            have n0 : w9.drew.cell? ⟨nb, acc.length, none⟩ = some (.string nmi) := by
              show w9.cell? _ = _
              rw [Lib.cell_of_heap NBW.out, HNMI.out]; exact nmA_get hi4
            have h1N' : (1 : Int) ≤ (N : Int) := by omega
            have DL : Hid ((ns.drop 1).length = N - 1) := Lib.hid (by rw [List.length_drop, HNL.out.1])
            have NMS : Hid (∀ s ∈ ns.drop 1, s.size ≤ maxLen) := Lib.hid (fun s hs => nmD_sz s (by have := List.mem_of_mem_drop hs; rw [HNL.out.2] at this; exact List.mem_of_mem_take this))
            have NRD : Hid (Rd w9.drew 1 (some ⟨nb, 1, none⟩) (ns.drop 1).length ((ns.drop 1).map Value.string)) := Lib.hid (by rw [HNL.out.2]; exact rd_nm NBW.out)
            clear hnmi
            refine wp_region_sk (fun w' => w'.cell? ⟨bx, 2, none⟩ = some (.slice pA acc.length pc) ∧ w'.cell? ⟨nb, acc.length, none⟩ = some (.string nmi)) 15 (by kernel_rfl) ⟨b2, n0⟩ (fun hHeld => ?_)
            refine wpSk_take (i := 0) (v := ?hv0_1) rfl (by kernel_rfl) (fun _ _ _ h => h) (Or.inl ⟨by rfl, ?hy0_1⟩) (by assumption) ?hr0_1
            case hy0_1 => (intro wS hSw; (try dsimp only at hSw); go_simp; (try with_reducible rfl))
            try simp only [Act.put, List.setIfInBounds_toArray]
            refine wpSk_take (i := 1) (v := ?hv1_1) rfl (by kernel_rfl) (fun _ _ _ h => h) (Or.inl ⟨by rfl, ?hy1_1⟩) (by assumption) ?hr1_1
            case hy1_1 => (intro wS hSw; (try dsimp only at hSw); go_simp; (try with_reducible rfl))
            try simp only [Act.put]
            refine wpSk_take (i := 2) (v := ?hv2_1) rfl (by kernel_rfl) (fun _ _ _ h => h) (Or.inl ⟨by rfl, ?hy2_1⟩) (by assumption) ?hr2_1
            case hy2_1 => (intro wS hSw; (try dsimp only at hSw); go_simp; (try with_reducible rfl))
            try simp only [Act.put]
            refine wpSk_take (i := 3) (v := ?hv3_1) rfl (by kernel_rfl) (fun _ _ _ h => h) (Or.inl ⟨by rfl, ?hy3_1⟩) (by assumption) ?hr3_1
            case hy3_1 => (intro wS hSw; (try dsimp only at hSw); go_simp; (try with_reducible rfl))
            try simp only [Act.put]
            refine wpSk_take (i := 4) (v := ?hv4_1) rfl (by kernel_rfl) (fun _ _ _ h => h) (Or.inl ⟨by rfl, ?hy4_1⟩) (by assumption) ?hr4_1
            case hy4_1 => (intro wS hSw; (try dsimp only at hSw); go_simp; (try with_reducible rfl))
            try simp only [Act.put]
            refine wpSk_take (i := 5) (v := ?hv5_1) rfl (by kernel_rfl) (fun _ _ _ h => h) (Or.inl ⟨by rfl, ?hy5_1⟩) (by assumption) ?hr5_1
            case hy5_1 => (intro wS hSw; (try dsimp only at hSw); go_simp; (try with_reducible rfl))
            try simp only [Act.put]
            refine wpSk_take (i := 6) (v := ?hv6_1) rfl (by kernel_rfl) (fun _ _ _ h => h) (Or.inl ⟨by rfl, ?hy6_1⟩) (by assumption) ?hr6_1
            case hy6_1 => (intro wS hSw; (try dsimp only at hSw); go_simp; (try with_reducible rfl))
            try simp only [Act.put]
            refine wpSk_take (i := 7) (v := ?hv7_1) rfl (by kernel_rfl) (fun _ _ _ h => h) (Or.inl ⟨by rfl, ?hy7_1⟩) (by assumption) ?hr7_1
            case hy7_1 => (intro wS hSw; (try dsimp only at hSw); go_simp; (try with_reducible rfl))
            try simp only [Act.put]
            refine wpSk_take (i := 8) (v := ?hv8_1) rfl (by kernel_rfl) (fun _ _ _ h => h) (Or.inl ⟨by rfl, ?hy8_1⟩) (by assumption) ?hr8_1
            case hy8_1 => (intro wS hSw; (try dsimp only at hSw); go_simp; (try with_reducible rfl))
            try simp only [Act.put]
            refine wpSk_take (i := 9) (v := ?hv9_1) rfl (by kernel_rfl) (fun _ _ _ h => h) (Or.inl ⟨by rfl, ?hy9_1⟩) (by assumption) ?hr9_1
            case hy9_1 => (intro wS hSw; (try dsimp only at hSw); go_simp; (try with_reducible rfl))
            try simp only [Act.put]
            have hN2 : 0 < N - 1 := by omega
            have HLC := Lib.hid (grwO_cap GN9.out)
            refine wpSk_step (i := 10) (by kernel_rfl) rfl (fun K hK => ?_)
            go_simp
            have FX := spec_l05Fix L9 (ns.drop 1) nb 1 3 p A c code k8' (fun b => wr.heap.size ≤ b ∧ b < w9.heap.size) A9 c9 w9.drew (by rw [DL.out]; omega) (by rw [DL.out]; omega) NMS.out NRD.out (fun h => by have := h.1; omega) (by omega) RBW.out (fun b off e hn h => by have := rd_lt RD.out e hn; have := h.1; omega) hl hc ⟨K9.out.at', K9.out.le⟩ (fun h => by have := h.1; omega) (GN9.out.rowB.keep fun _ _ => rfl) (fun b h => h.2) HLC.out.1 HLC.out.2
            rw [DL.out] at FX
            refine FX.mono ?_
            rintro e w10 ⟨rfl, r10, k10, kp10, sh10⟩
            have hfl := fixGs_len code (ns.drop 1) L9 k8'
            generalize hfx : fixGs code (ns.drop 1) L9 k8' = rx at *
            obtain ⟨lx, k5⟩ := rx
            simp only at r10 k10 hfl
            have HBD := Lib.hid (bdyD_of HTW.out HRAW.out HGR.out HSP.out hfx)
            have hz10 : w9.heap.size ≤ w10.heap.size := kp10.size
            have hzW : wr.heap.size ≤ w9.heap.size := P9.out.size
            have HPR : Hid (PrG w10 (fun b => wr.heap.size ≤ b ∧ b < w10.heap.size) [.string nmi, .slice A9 L9.length c9] ⟨nmi, lx⟩) := Lib.hid ⟨⟨nmi, A9, L9.length, c9⟩, rfl, ⟨rfl, hfl.symm, hnsz, by rw [show (⟨nmi, lx⟩ : Pr).body = lx from rfl, hfl]; exact HLC.out.1, HLC.out.2, r10.sub (fun b h => ⟨h.1, by have := h.2; omega⟩)⟩, (GN9.out.cap.shp sh10).sub (fun b h => ⟨h.1, by have := h.2; omega⟩)⟩
            have KW10 : Hid (Keep (fun b => b < wr.heap.size ∧ b ≠ p) wr w10) := Lib.hid (P9.out.trans (⟨kp10.os, kp10.tape, kp10.output, kp10.size, kp10.block⟩ : Keep _ w9 w10) (fun b hb h => ⟨fun hf => by have := hf.1; omega, h.2⟩))
            have b10 := kp10.cellEq (p := ⟨bx, 2, none⟩) ⟨fun h => by have : wr.heap.size ≤ bx := h.1; omega, by show bx ≠ p; omega⟩ b2
            have n10 := kp10.cellEq (p := ⟨nb, acc.length, none⟩) ⟨fun h => by have : wr.heap.size ≤ nb := h.1; omega, by show nb ≠ p; omega⟩ n0
            have BX10 : Hid (w10.heap[bx]? = some (.cells #[.slice (some ⟨gb, 0, none⟩) 4 4, .slice (some ⟨lb, 0, none⟩) 3 3, .slice pA acc.length pc] 27 (0, 0))) := Lib.hid ((kp10.block bx (by show bx < w9.heap.size; omega) ⟨fun h => by have := h.1; omega, by omega⟩).trans BXW.out)
            have K10 := Lib.hid k10
            clear FX r10 k10 kp10 sh10 hfx b2 n0
            refine hK.out _ _ (fun _ => ⟨b10, n10⟩) ?_
            clear hK K hHeld
            have hHeld : w10.cell? ⟨bx, 2, none⟩ = some (.slice pA acc.length pc) ∧ w10.cell? ⟨nb, acc.length, none⟩ = some (.string nmi) := ⟨b10, n10⟩
            try simp only [Act.put, List.setIfInBounds_toArray, List.set_cons_zero, List.set_cons_succ]
            refine wpSk_take (i := 11) (v := ?hv11_1) rfl (by kernel_rfl) (fun _ _ _ h => h) (Or.inl ⟨by rfl, ?hy11_1⟩) (by assumption) ?hr11_1
            case hy11_1 => (intro wS hSw; (try dsimp only at hSw); go_simp; (try with_reducible rfl))
            try simp only [Act.put, List.setIfInBounds_toArray]
            refine wpSk_step (i := 12) (by kernel_rfl) rfl (fun K hK => ?_)
            go_simp
            have b12 : (w10.alloc (.cells #[.string nmi, .slice A9 L9.length c9] 31)).cell? ⟨bx, 2, none⟩ = some (.slice pA acc.length pc) := (World.cell?_alloc_lt _ _ _ (by show bx < _; omega)).trans b10
            have n12 : (w10.alloc (.cells #[.string nmi, .slice A9 L9.length c9] 31)).cell? ⟨nb, acc.length, none⟩ = some (.string nmi) := (World.cell?_alloc_lt _ _ _ (by show nb < _; omega)).trans n10
            refine hK.out _ _ (fun _ => ⟨b12, n12⟩) ?_
            clear hK K hHeld
            try simp only [Act.put, List.setIfInBounds_toArray, List.set_cons_zero, List.set_cons_succ]
            obtain ⟨cs, GG, hat⟩ := GR.out
            have HAT := Lib.hid hat
            have OWX := Lib.hid ((hat.keep PrG.keepP KW10.out (by intro b hb hb2 _; exact ⟨hb2, by omega⟩)).ow)
            clear hat
            refine wpSk_step (i := 13) (by kernel_rfl) rfl (fun K hK => ?_)
            refine step_appG _ prT (by rfl) _ _ (by rfl) (by rfl) (OWX.out.own.alloc _) _ 1 1 [.string nmi, .slice A9 L9.length c9] (by rfl) (Rd.new _ 2 1 _ _ rfl) (by simp [Value.oneCell']) (by omega) (by decide) ?_
            intro v13 w13 own13 gr13
            have GZ : Hid (Grew (.slice pA acc.length pc) v13 w10 w13) := Lib.hid ((Grew.of_below (Below.alloc (Below.refl _ _) (Nat.le_refl _) _)).trans gr13)
            have GX13 : Hid (GrwX PrG 31 2 w1.heap.size (fun _ => False) w13 v13 (acc ++ [(⟨nmi, lx⟩ : Pr)])) := Lib.hid (grwx_app PrG.keepP (S := fun b => b < wr.heap.size ∧ b ≠ p) HAT.out KW10.out (by intro b hb hb2 _; exact ⟨hb2, by omega⟩) rfl HPR.out (by intro b h; exact ⟨h.1, h.2, fun h => h⟩) (fun b _ h => h) own13 GZ.out)
            obtain ⟨acc', hacc⟩ : ∃ a', a' = acc ++ [(⟨nmi, lx⟩ : Pr)] := ⟨_, rfl⟩
            have HACC := Lib.hid hacc
            have hal : acc'.length = acc.length + 1 := by rw [hacc]; simp
            have HAL := Lib.hid hal
            rw [← hacc] at GX13
            clear hacc hal
            have hnb : ∀ b, b < w1.heap.size → (Value.slice pA acc.length pc).ownBlock ≠ some b := fun b hb e => by have := HAT.out.ow.lt b e; omega
            have BK13 : Hid (Keep (fun b => b < w1.heap.size) w10 w13) := Lib.hid (GZ.out.keep.mono fun b _ hb => hnb b hb)
            have b13 := BK13.out.cellEq (p := ⟨bx, 2, none⟩) (by show bx < _; omega) b10
            have n13 := BK13.out.cellEq (p := ⟨nb, acc.length, none⟩) (by show nb < _; omega) n10
            have BX13 : Hid (w13.heap[bx]? = some (.cells #[.slice (some ⟨gb, 0, none⟩) 4 4, .slice (some ⟨lb, 0, none⟩) 3 3, .slice pA acc.length pc] 27 (0, 0))) := Lib.hid ((BK13.out.block bx (by omega) (by omega)).trans BX10.out)
            have K13 : Hid (CurAt w13 p A c code k5) := Lib.hid ⟨(BK13.out.block p (lt_of_block K10.out.at') (by omega)).trans K10.out.at', K10.out.le⟩
            have hz13 : w10.heap.size ≤ w13.heap.size := BK13.out.size
            have KW13 : Hid (Keep (fun b => b < w1.heap.size ∧ b ≠ p) wr w13) := Lib.hid ((KW10.out.mono (fun b _ (h : b < w1.heap.size ∧ b ≠ p) => ⟨by have := h.1; omega, h.2⟩)).trans BK13.out (fun b _ h => h.1))
            obtain ⟨-, A13, c13, rfl, hA13, hc13⟩ : v13 = v13 ∧ ∃ A c, v13 = .slice A acc'.length c ∧ acc'.length ≤ c ∧ c ≤ maxLen := ⟨rfl, GX13.out.slice⟩
            refine hK.out _ _ (fun _ => ⟨b13, n13⟩) ?_
            clear hK K own13 gr13 b10 n10 b12 n12
            try simp only [Act.put, List.setIfInBounds_toArray]
            have hHeld : w13.cell? ⟨bx, 2, none⟩ = some (.slice pA acc.length pc) ∧ w13.cell? ⟨nb, acc.length, none⟩ = some (.string nmi) := ⟨b13, n13⟩
            refine wpSk_take (i := 14) (v := ?hv14_1) rfl (by kernel_rfl) (fun _ _ _ h => h) (Or.inl ⟨by rfl, ?hy14_1⟩) (by assumption) ?hr14_1
            case hy14_1 => (intro wS hSw; (try dsimp only at hSw); go_simp; (try with_reducible rfl))
            try simp only [Act.put]
            clear hHeld
            have f13 : w13.frozen? ⟨bx, 2, none⟩ = false := (cells3 BX13.out).2.2.2
            refine wpSk_step (i := 15) (by kernel_rfl) rfl (fun K hK => ?_)
            go_simp
            refine hK.out _ _ (fun h => absurd h (by decide)) ?_
            clear hK K
            refine wpSk_done (by kernel_rfl) ?_ _
            have HNEW : Hid (prsD code ns (N - acc'.length) acc' k5 = FIN) := Lib.hid (by
              have hq := PR.out
              have hal := HAL.out
              rw [show N - acc.length = (N - acc'.length) + 1 by omega, prsD_more HBD.out] at hq
              have hns : ns[acc.length]?.getD ByteArray.empty = nmi := by rw [HNL.out.2, List.getElem?_take, if_pos hlt, HNMI.out, List.getElem?_eq_getElem (by exact hi4)]; rfl
              rw [hns, ← HACC.out] at hq
              exact hq)
            go_wp2_with fail
            go_roundw
            case rel =>
              refine ⟨acc', k5, by have := HAL.out; omega, by rw [HAL.out]; go_num, Lib.hid ⟨_, ?_, GX13.out.keep PrG.keepP (Keep.setCell (S := fun b => b ≠ bx) (p := ⟨bx, 2, none⟩) (Keep.refl _ _) (fun h => h rfl) _) (fun b hb _ _ => by omega), K13.out.setNew (a := ⟨bx, 2, none⟩) (by show bx ≠ p; omega) _, ((KP.out.trans KW13.out (fun b hb h => ⟨h.1, h.2.1⟩)).setCell (p := ⟨bx, 2, none⟩) (fun h => h.2.2 rfl) _), HNEW.out⟩⟩
              rw [heap_setCell_same w13 bx 2 _ _ _ BX13.out]; rfl
            case measure => have := HAL.out; simp [intOf]; omega
          · have hyb : (y == 0) = false := by simp [hy]
            have HSP : Hid (spnS code ns acc.length L7 k7' = (L7, k8')) := Lib.hid (by rw [HI.out, spnS_zero_no HZ8.out hy])
            go_wp2_with fail
            -- STAGE D
            have BXW : Hid (w8.heap[bx]? = some (.cells #[.slice (some ⟨gb, 0, none⟩) 4 4, .slice (some ⟨lb, 0, none⟩) 3 3, .slice pA acc.length pc] 27 (0, 0))) := Lib.hid ((P8.out.block bx (by omega) ⟨by omega, by omega⟩).trans BX.out)
            have NBW : Hid (w8.heap[nb]? = some (.cells nmA 9 (0, 0))) := Lib.hid ((P8.out.block nb (by omega) ⟨by omega, by omega⟩).trans NBr.out)
            have RBW : Hid (Rd w8 1 A code.length (bv code)) := Lib.hid (rd_apart RR'.out CU.out (P8.out.mono (fun b hb h => ⟨hb, h⟩)))
            obtain ⟨nmi, hnmi⟩ : ∃ s, s = nmD[acc.length] := ⟨_, rfl⟩
            have HNMI := Lib.hid hnmi
            have hnsz : nmi.size ≤ maxLen := by rw [hnmi]; exact nmD_sz _ (List.getElem_mem _)
            have b2 : w8.drew.cell? ⟨bx, 2, none⟩ = some (.slice pA acc.length pc) := (cells3 BXW.out).1.2.2
            have n0 : w8.drew.cell? ⟨nb, acc.length, none⟩ = some (.string nmi) := by
              show w8.cell? _ = _
              rw [Lib.cell_of_heap NBW.out, HNMI.out]; exact nmA_get hi4
            have h1N' : (1 : Int) ≤ (N : Int) := by omega
            have DL : Hid ((ns.drop 1).length = N - 1) := Lib.hid (by rw [List.length_drop, HNL.out.1])
            have NMS : Hid (∀ s ∈ ns.drop 1, s.size ≤ maxLen) := Lib.hid (fun s hs => nmD_sz s (by have := List.mem_of_mem_drop hs; rw [HNL.out.2] at this; exact List.mem_of_mem_take this))
            have NRD : Hid (Rd w8.drew 1 (some ⟨nb, 1, none⟩) (ns.drop 1).length ((ns.drop 1).map Value.string)) := Lib.hid (by rw [HNL.out.2]; exact rd_nm NBW.out)
            clear hnmi
            refine wp_region_sk (fun w' => w'.cell? ⟨bx, 2, none⟩ = some (.slice pA acc.length pc) ∧ w'.cell? ⟨nb, acc.length, none⟩ = some (.string nmi)) 15 (by kernel_rfl) ⟨b2, n0⟩ (fun hHeld => ?_)
            refine wpSk_take (i := 0) (v := ?hv0_2) rfl (by kernel_rfl) (fun _ _ _ h => h) (Or.inl ⟨by rfl, ?hy0_2⟩) (by assumption) ?hr0_2
            case hy0_2 => (intro wS hSw; (try dsimp only at hSw); go_simp; (try with_reducible rfl))
            try simp only [Act.put, List.setIfInBounds_toArray]
            refine wpSk_take (i := 1) (v := ?hv1_2) rfl (by kernel_rfl) (fun _ _ _ h => h) (Or.inl ⟨by rfl, ?hy1_2⟩) (by assumption) ?hr1_2
            case hy1_2 => (intro wS hSw; (try dsimp only at hSw); go_simp; (try with_reducible rfl))
            try simp only [Act.put]
            refine wpSk_take (i := 2) (v := ?hv2_2) rfl (by kernel_rfl) (fun _ _ _ h => h) (Or.inl ⟨by rfl, ?hy2_2⟩) (by assumption) ?hr2_2
            case hy2_2 => (intro wS hSw; (try dsimp only at hSw); go_simp; (try with_reducible rfl))
            try simp only [Act.put]
            refine wpSk_take (i := 3) (v := ?hv3_2) rfl (by kernel_rfl) (fun _ _ _ h => h) (Or.inl ⟨by rfl, ?hy3_2⟩) (by assumption) ?hr3_2
            case hy3_2 => (intro wS hSw; (try dsimp only at hSw); go_simp; (try with_reducible rfl))
            try simp only [Act.put]
            refine wpSk_take (i := 4) (v := ?hv4_2) rfl (by kernel_rfl) (fun _ _ _ h => h) (Or.inl ⟨by rfl, ?hy4_2⟩) (by assumption) ?hr4_2
            case hy4_2 => (intro wS hSw; (try dsimp only at hSw); go_simp; (try with_reducible rfl))
            try simp only [Act.put]
            refine wpSk_take (i := 5) (v := ?hv5_2) rfl (by kernel_rfl) (fun _ _ _ h => h) (Or.inl ⟨by rfl, ?hy5_2⟩) (by assumption) ?hr5_2
            case hy5_2 => (intro wS hSw; (try dsimp only at hSw); go_simp; (try with_reducible rfl))
            try simp only [Act.put]
            refine wpSk_take (i := 6) (v := ?hv6_2) rfl (by kernel_rfl) (fun _ _ _ h => h) (Or.inl ⟨by rfl, ?hy6_2⟩) (by assumption) ?hr6_2
            case hy6_2 => (intro wS hSw; (try dsimp only at hSw); go_simp; (try with_reducible rfl))
            try simp only [Act.put]
            refine wpSk_take (i := 7) (v := ?hv7_2) rfl (by kernel_rfl) (fun _ _ _ h => h) (Or.inl ⟨by rfl, ?hy7_2⟩) (by assumption) ?hr7_2
            case hy7_2 => (intro wS hSw; (try dsimp only at hSw); go_simp; (try with_reducible rfl))
            try simp only [Act.put]
            refine wpSk_take (i := 8) (v := ?hv8_2) rfl (by kernel_rfl) (fun _ _ _ h => h) (Or.inl ⟨by rfl, ?hy8_2⟩) (by assumption) ?hr8_2
            case hy8_2 => (intro wS hSw; (try dsimp only at hSw); go_simp; (try with_reducible rfl))
            try simp only [Act.put]
            refine wpSk_take (i := 9) (v := ?hv9_2) rfl (by kernel_rfl) (fun _ _ _ h => h) (Or.inl ⟨by rfl, ?hy9_2⟩) (by assumption) ?hr9_2
            case hy9_2 => (intro wS hSw; (try dsimp only at hSw); go_simp; (try with_reducible rfl))
            try simp only [Act.put]
            have hN2 : 0 < N - 1 := by omega
            have HLC := Lib.hid (grwO_cap G8.out)
            refine wpSk_step (i := 10) (by kernel_rfl) rfl (fun K hK => ?_)
            go_simp
            have FX := spec_l05Fix L7 (ns.drop 1) nb 1 3 p A c code k8' (fun b => wr.heap.size ≤ b ∧ b < w8.heap.size) A7 c7 w8.drew (by rw [DL.out]; omega) (by rw [DL.out]; omega) NMS.out NRD.out (fun h => by have := h.1; omega) (by omega) RBW.out (fun b off e hn h => by have := rd_lt RD.out e hn; have := h.1; omega) hl hc ⟨K8.out.at', K8.out.le⟩ (fun h => by have := h.1; omega) (G8.out.rowB.keep fun _ _ => rfl) (fun b h => h.2) HLC.out.1 HLC.out.2
            rw [DL.out] at FX
            refine FX.mono ?_
            rintro e w10 ⟨rfl, r10, k10, kp10, sh10⟩
            have hfl := fixGs_len code (ns.drop 1) L7 k8'
            generalize hfx : fixGs code (ns.drop 1) L7 k8' = rx at *
            obtain ⟨lx, k5⟩ := rx
            simp only at r10 k10 hfl
            have HBD := Lib.hid (bdyD_of HTW.out HRAW.out HGR.out HSP.out hfx)
            have hz10 : w8.heap.size ≤ w10.heap.size := kp10.size
            have hzW : wr.heap.size ≤ w8.heap.size := P8.out.size
            have HPR : Hid (PrG w10 (fun b => wr.heap.size ≤ b ∧ b < w10.heap.size) [.string nmi, .slice A7 L7.length c7] ⟨nmi, lx⟩) := Lib.hid ⟨⟨nmi, A7, L7.length, c7⟩, rfl, ⟨rfl, hfl.symm, hnsz, by rw [show (⟨nmi, lx⟩ : Pr).body = lx from rfl, hfl]; exact HLC.out.1, HLC.out.2, r10.sub (fun b h => ⟨h.1, by have := h.2; omega⟩)⟩, (G8.out.cap.shp sh10).sub (fun b h => ⟨h.1, by have := h.2; omega⟩)⟩
            have KW10 : Hid (Keep (fun b => b < wr.heap.size ∧ b ≠ p) wr w10) := Lib.hid (P8.out.trans (⟨kp10.os, kp10.tape, kp10.output, kp10.size, kp10.block⟩ : Keep _ w8 w10) (fun b hb h => ⟨fun hf => by have := hf.1; omega, h.2⟩))
            have b10 := kp10.cellEq (p := ⟨bx, 2, none⟩) ⟨fun h => by have : wr.heap.size ≤ bx := h.1; omega, by show bx ≠ p; omega⟩ b2
            have n10 := kp10.cellEq (p := ⟨nb, acc.length, none⟩) ⟨fun h => by have : wr.heap.size ≤ nb := h.1; omega, by show nb ≠ p; omega⟩ n0
            have BX10 : Hid (w10.heap[bx]? = some (.cells #[.slice (some ⟨gb, 0, none⟩) 4 4, .slice (some ⟨lb, 0, none⟩) 3 3, .slice pA acc.length pc] 27 (0, 0))) := Lib.hid ((kp10.block bx (by show bx < w8.heap.size; omega) ⟨fun h => by have := h.1; omega, by omega⟩).trans BXW.out)
            have K10 := Lib.hid k10
            clear FX r10 k10 kp10 sh10 hfx b2 n0
            refine hK.out _ _ (fun _ => ⟨b10, n10⟩) ?_
            clear hK K hHeld
            have hHeld : w10.cell? ⟨bx, 2, none⟩ = some (.slice pA acc.length pc) ∧ w10.cell? ⟨nb, acc.length, none⟩ = some (.string nmi) := ⟨b10, n10⟩
            try simp only [Act.put, List.setIfInBounds_toArray, List.set_cons_zero, List.set_cons_succ]
            refine wpSk_take (i := 11) (v := ?hv11_2) rfl (by kernel_rfl) (fun _ _ _ h => h) (Or.inl ⟨by rfl, ?hy11_2⟩) (by assumption) ?hr11_2
            case hy11_2 => (intro wS hSw; (try dsimp only at hSw); go_simp; (try with_reducible rfl))
            try simp only [Act.put, List.setIfInBounds_toArray]
            refine wpSk_step (i := 12) (by kernel_rfl) rfl (fun K hK => ?_)
            go_simp
            have b12 : (w10.alloc (.cells #[.string nmi, .slice A7 L7.length c7] 31)).cell? ⟨bx, 2, none⟩ = some (.slice pA acc.length pc) := (World.cell?_alloc_lt _ _ _ (by show bx < _; omega)).trans b10
            have n12 : (w10.alloc (.cells #[.string nmi, .slice A7 L7.length c7] 31)).cell? ⟨nb, acc.length, none⟩ = some (.string nmi) := (World.cell?_alloc_lt _ _ _ (by show nb < _; omega)).trans n10
            refine hK.out _ _ (fun _ => ⟨b12, n12⟩) ?_
            clear hK K hHeld
            try simp only [Act.put, List.setIfInBounds_toArray, List.set_cons_zero, List.set_cons_succ]
            obtain ⟨cs, GG, hat⟩ := GR.out
            have HAT := Lib.hid hat
            have OWX := Lib.hid ((hat.keep PrG.keepP KW10.out (by intro b hb hb2 _; exact ⟨hb2, by omega⟩)).ow)
            clear hat
            refine wpSk_step (i := 13) (by kernel_rfl) rfl (fun K hK => ?_)
            refine step_appG _ prT (by rfl) _ _ (by rfl) (by rfl) (OWX.out.own.alloc _) _ 1 1 [.string nmi, .slice A7 L7.length c7] (by rfl) (Rd.new _ 2 1 _ _ rfl) (by simp [Value.oneCell']) (by omega) (by decide) ?_
            intro v13 w13 own13 gr13
            have GZ : Hid (Grew (.slice pA acc.length pc) v13 w10 w13) := Lib.hid ((Grew.of_below (Below.alloc (Below.refl _ _) (Nat.le_refl _) _)).trans gr13)
            have GX13 : Hid (GrwX PrG 31 2 w1.heap.size (fun _ => False) w13 v13 (acc ++ [(⟨nmi, lx⟩ : Pr)])) := Lib.hid (grwx_app PrG.keepP (S := fun b => b < wr.heap.size ∧ b ≠ p) HAT.out KW10.out (by intro b hb hb2 _; exact ⟨hb2, by omega⟩) rfl HPR.out (by intro b h; exact ⟨h.1, h.2, fun h => h⟩) (fun b _ h => h) own13 GZ.out)
            obtain ⟨acc', hacc⟩ : ∃ a', a' = acc ++ [(⟨nmi, lx⟩ : Pr)] := ⟨_, rfl⟩
            have HACC := Lib.hid hacc
            have hal : acc'.length = acc.length + 1 := by rw [hacc]; simp
            have HAL := Lib.hid hal
            rw [← hacc] at GX13
            clear hacc hal
            have hnb : ∀ b, b < w1.heap.size → (Value.slice pA acc.length pc).ownBlock ≠ some b := fun b hb e => by have := HAT.out.ow.lt b e; omega
            have BK13 : Hid (Keep (fun b => b < w1.heap.size) w10 w13) := Lib.hid (GZ.out.keep.mono fun b _ hb => hnb b hb)
            have b13 := BK13.out.cellEq (p := ⟨bx, 2, none⟩) (by show bx < _; omega) b10
            have n13 := BK13.out.cellEq (p := ⟨nb, acc.length, none⟩) (by show nb < _; omega) n10
            have BX13 : Hid (w13.heap[bx]? = some (.cells #[.slice (some ⟨gb, 0, none⟩) 4 4, .slice (some ⟨lb, 0, none⟩) 3 3, .slice pA acc.length pc] 27 (0, 0))) := Lib.hid ((BK13.out.block bx (by omega) (by omega)).trans BX10.out)
            have K13 : Hid (CurAt w13 p A c code k5) := Lib.hid ⟨(BK13.out.block p (lt_of_block K10.out.at') (by omega)).trans K10.out.at', K10.out.le⟩
            have hz13 : w10.heap.size ≤ w13.heap.size := BK13.out.size
            have KW13 : Hid (Keep (fun b => b < w1.heap.size ∧ b ≠ p) wr w13) := Lib.hid ((KW10.out.mono (fun b _ (h : b < w1.heap.size ∧ b ≠ p) => ⟨by have := h.1; omega, h.2⟩)).trans BK13.out (fun b _ h => h.1))
            obtain ⟨-, A13, c13, rfl, hA13, hc13⟩ : v13 = v13 ∧ ∃ A c, v13 = .slice A acc'.length c ∧ acc'.length ≤ c ∧ c ≤ maxLen := ⟨rfl, GX13.out.slice⟩
            refine hK.out _ _ (fun _ => ⟨b13, n13⟩) ?_
            clear hK K own13 gr13 b10 n10 b12 n12
            try simp only [Act.put, List.setIfInBounds_toArray]
            have hHeld : w13.cell? ⟨bx, 2, none⟩ = some (.slice pA acc.length pc) ∧ w13.cell? ⟨nb, acc.length, none⟩ = some (.string nmi) := ⟨b13, n13⟩
            refine wpSk_take (i := 14) (v := ?hv14_2) rfl (by kernel_rfl) (fun _ _ _ h => h) (Or.inl ⟨by rfl, ?hy14_2⟩) (by assumption) ?hr14_2
            case hy14_2 => (intro wS hSw; (try dsimp only at hSw); go_simp; (try with_reducible rfl))
            try simp only [Act.put]
            clear hHeld
            have f13 : w13.frozen? ⟨bx, 2, none⟩ = false := (cells3 BX13.out).2.2.2
            refine wpSk_step (i := 15) (by kernel_rfl) rfl (fun K hK => ?_)
            go_simp
            refine hK.out _ _ (fun h => absurd h (by decide)) ?_
            clear hK K
            refine wpSk_done (by kernel_rfl) ?_ _
            have HNEW : Hid (prsD code ns (N - acc'.length) acc' k5 = FIN) := Lib.hid (by
              have hq := PR.out
              have hal := HAL.out
              rw [show N - acc.length = (N - acc'.length) + 1 by omega, prsD_more HBD.out] at hq
              have hns : ns[acc.length]?.getD ByteArray.empty = nmi := by rw [HNL.out.2, List.getElem?_take, if_pos hlt, HNMI.out, List.getElem?_eq_getElem (by exact hi4)]; rfl
              rw [hns, ← HACC.out] at hq
              exact hq)
            go_wp2_with fail
            go_roundw
            case rel =>
              refine ⟨acc', k5, by have := HAL.out; omega, by rw [HAL.out]; go_num, Lib.hid ⟨_, ?_, GX13.out.keep PrG.keepP (Keep.setCell (S := fun b => b ≠ bx) (p := ⟨bx, 2, none⟩) (Keep.refl _ _) (fun h => h rfl) _) (fun b hb _ _ => by omega), K13.out.setNew (a := ⟨bx, 2, none⟩) (by show bx ≠ p; omega) _, ((KP.out.trans KW13.out (fun b hb h => ⟨h.1, h.2.1⟩)).setCell (p := ⟨bx, 2, none⟩) (fun h => h.2.2 rfl) _), HNEW.out⟩⟩
              rw [heap_setCell_same w13 bx 2 _ _ _ BX13.out]; rfl
            case measure => have := HAL.out; simp [intOf]; omega
        · have hib : ((acc.length : Int) == 0) = false := beq_eq_false_iff_ne.2 (by omega)
          have HSP := Lib.hid (spnS_more (code := code) (ns := ns) (l := L7) (k := k7') hi)
          go_wp2_with fail
          -- STAGE D
          have BXW : Hid (w7.heap[bx]? = some (.cells #[.slice (some ⟨gb, 0, none⟩) 4 4, .slice (some ⟨lb, 0, none⟩) 3 3, .slice pA acc.length pc] 27 (0, 0))) := Lib.hid ((P7.out.block bx (by omega) ⟨by omega, by omega⟩).trans BX.out)
          have NBW : Hid (w7.heap[nb]? = some (.cells nmA 9 (0, 0))) := Lib.hid ((P7.out.block nb (by omega) ⟨by omega, by omega⟩).trans NBr.out)
          have RBW : Hid (Rd w7 1 A code.length (bv code)) := Lib.hid (rd_apart RR'.out CU.out (P7.out.mono (fun b hb h => ⟨hb, h⟩)))
          obtain ⟨nmi, hnmi⟩ : ∃ s, s = nmD[acc.length] := ⟨_, rfl⟩
          have HNMI := Lib.hid hnmi
          have hnsz : nmi.size ≤ maxLen := by rw [hnmi]; exact nmD_sz _ (List.getElem_mem _)
          have b2 : w7.drew.cell? ⟨bx, 2, none⟩ = some (.slice pA acc.length pc) := (cells3 BXW.out).1.2.2
          have n0 : w7.drew.cell? ⟨nb, acc.length, none⟩ = some (.string nmi) := by
            show w7.cell? _ = _
            rw [Lib.cell_of_heap NBW.out, HNMI.out]; exact nmA_get hi4
          have h1N' : (1 : Int) ≤ (N : Int) := by omega
          have DL : Hid ((ns.drop 1).length = N - 1) := Lib.hid (by rw [List.length_drop, HNL.out.1])
          have NMS : Hid (∀ s ∈ ns.drop 1, s.size ≤ maxLen) := Lib.hid (fun s hs => nmD_sz s (by have := List.mem_of_mem_drop hs; rw [HNL.out.2] at this; exact List.mem_of_mem_take this))
          have NRD : Hid (Rd w7.drew 1 (some ⟨nb, 1, none⟩) (ns.drop 1).length ((ns.drop 1).map Value.string)) := Lib.hid (by rw [HNL.out.2]; exact rd_nm NBW.out)
          clear hnmi
          refine wp_region_sk (fun w' => w'.cell? ⟨bx, 2, none⟩ = some (.slice pA acc.length pc) ∧ w'.cell? ⟨nb, acc.length, none⟩ = some (.string nmi)) 15 (by kernel_rfl) ⟨b2, n0⟩ (fun hHeld => ?_)
          refine wpSk_take (i := 0) (v := ?hv0_3) rfl (by kernel_rfl) (fun _ _ _ h => h) (Or.inl ⟨by rfl, ?hy0_3⟩) (by assumption) ?hr0_3
          case hy0_3 => (intro wS hSw; (try dsimp only at hSw); go_simp; (try with_reducible rfl))
          try simp only [Act.put, List.setIfInBounds_toArray]
          refine wpSk_take (i := 1) (v := ?hv1_3) rfl (by kernel_rfl) (fun _ _ _ h => h) (Or.inl ⟨by rfl, ?hy1_3⟩) (by assumption) ?hr1_3
          case hy1_3 => (intro wS hSw; (try dsimp only at hSw); go_simp; (try with_reducible rfl))
          try simp only [Act.put]
          refine wpSk_take (i := 2) (v := ?hv2_3) rfl (by kernel_rfl) (fun _ _ _ h => h) (Or.inl ⟨by rfl, ?hy2_3⟩) (by assumption) ?hr2_3
          case hy2_3 => (intro wS hSw; (try dsimp only at hSw); go_simp; (try with_reducible rfl))
          try simp only [Act.put]
          refine wpSk_take (i := 3) (v := ?hv3_3) rfl (by kernel_rfl) (fun _ _ _ h => h) (Or.inl ⟨by rfl, ?hy3_3⟩) (by assumption) ?hr3_3
          case hy3_3 => (intro wS hSw; (try dsimp only at hSw); go_simp; (try with_reducible rfl))
          try simp only [Act.put]
          refine wpSk_take (i := 4) (v := ?hv4_3) rfl (by kernel_rfl) (fun _ _ _ h => h) (Or.inl ⟨by rfl, ?hy4_3⟩) (by assumption) ?hr4_3
          case hy4_3 => (intro wS hSw; (try dsimp only at hSw); go_simp; (try with_reducible rfl))
          try simp only [Act.put]
          refine wpSk_take (i := 5) (v := ?hv5_3) rfl (by kernel_rfl) (fun _ _ _ h => h) (Or.inl ⟨by rfl, ?hy5_3⟩) (by assumption) ?hr5_3
          case hy5_3 => (intro wS hSw; (try dsimp only at hSw); go_simp; (try with_reducible rfl))
          try simp only [Act.put]
          refine wpSk_take (i := 6) (v := ?hv6_3) rfl (by kernel_rfl) (fun _ _ _ h => h) (Or.inl ⟨by rfl, ?hy6_3⟩) (by assumption) ?hr6_3
          case hy6_3 => (intro wS hSw; (try dsimp only at hSw); go_simp; (try with_reducible rfl))
          try simp only [Act.put]
          refine wpSk_take (i := 7) (v := ?hv7_3) rfl (by kernel_rfl) (fun _ _ _ h => h) (Or.inl ⟨by rfl, ?hy7_3⟩) (by assumption) ?hr7_3
          case hy7_3 => (intro wS hSw; (try dsimp only at hSw); go_simp; (try with_reducible rfl))
          try simp only [Act.put]
          refine wpSk_take (i := 8) (v := ?hv8_3) rfl (by kernel_rfl) (fun _ _ _ h => h) (Or.inl ⟨by rfl, ?hy8_3⟩) (by assumption) ?hr8_3
          case hy8_3 => (intro wS hSw; (try dsimp only at hSw); go_simp; (try with_reducible rfl))
          try simp only [Act.put]
          refine wpSk_take (i := 9) (v := ?hv9_3) rfl (by kernel_rfl) (fun _ _ _ h => h) (Or.inl ⟨by rfl, ?hy9_3⟩) (by assumption) ?hr9_3
          case hy9_3 => (intro wS hSw; (try dsimp only at hSw); go_simp; (try with_reducible rfl))
          try simp only [Act.put]
          have hN2 : 0 < N - 1 := by omega
          have HLC := Lib.hid (grwO_cap G7.out)
          refine wpSk_step (i := 10) (by kernel_rfl) rfl (fun K hK => ?_)
          go_simp
          have FX := spec_l05Fix L7 (ns.drop 1) nb 1 3 p A c code k7' (fun b => wr.heap.size ≤ b ∧ b < w7.heap.size) A7 c7 w7.drew (by rw [DL.out]; omega) (by rw [DL.out]; omega) NMS.out NRD.out (fun h => by have := h.1; omega) (by omega) RBW.out (fun b off e hn h => by have := rd_lt RD.out e hn; have := h.1; omega) hl hc ⟨K7.out.at', K7.out.le⟩ (fun h => by have := h.1; omega) (G7.out.rowB.keep fun _ _ => rfl) (fun b h => h.2) HLC.out.1 HLC.out.2
          rw [DL.out] at FX
          refine FX.mono ?_
          rintro e w10 ⟨rfl, r10, k10, kp10, sh10⟩
          have hfl := fixGs_len code (ns.drop 1) L7 k7'
          generalize hfx : fixGs code (ns.drop 1) L7 k7' = rx at *
          obtain ⟨lx, k5⟩ := rx
          simp only at r10 k10 hfl
          have HBD := Lib.hid (bdyD_of HTW.out HRAW.out HGR.out HSP.out hfx)
          have hz10 : w7.heap.size ≤ w10.heap.size := kp10.size
          have hzW : wr.heap.size ≤ w7.heap.size := P7.out.size
          have HPR : Hid (PrG w10 (fun b => wr.heap.size ≤ b ∧ b < w10.heap.size) [.string nmi, .slice A7 L7.length c7] ⟨nmi, lx⟩) := Lib.hid ⟨⟨nmi, A7, L7.length, c7⟩, rfl, ⟨rfl, hfl.symm, hnsz, by rw [show (⟨nmi, lx⟩ : Pr).body = lx from rfl, hfl]; exact HLC.out.1, HLC.out.2, r10.sub (fun b h => ⟨h.1, by have := h.2; omega⟩)⟩, (G7.out.cap.shp sh10).sub (fun b h => ⟨h.1, by have := h.2; omega⟩)⟩
          have KW10 : Hid (Keep (fun b => b < wr.heap.size ∧ b ≠ p) wr w10) := Lib.hid (P7.out.trans (⟨kp10.os, kp10.tape, kp10.output, kp10.size, kp10.block⟩ : Keep _ w7 w10) (fun b hb h => ⟨fun hf => by have := hf.1; omega, h.2⟩))
          have b10 := kp10.cellEq (p := ⟨bx, 2, none⟩) ⟨fun h => by have : wr.heap.size ≤ bx := h.1; omega, by show bx ≠ p; omega⟩ b2
          have n10 := kp10.cellEq (p := ⟨nb, acc.length, none⟩) ⟨fun h => by have : wr.heap.size ≤ nb := h.1; omega, by show nb ≠ p; omega⟩ n0
          have BX10 : Hid (w10.heap[bx]? = some (.cells #[.slice (some ⟨gb, 0, none⟩) 4 4, .slice (some ⟨lb, 0, none⟩) 3 3, .slice pA acc.length pc] 27 (0, 0))) := Lib.hid ((kp10.block bx (by show bx < w7.heap.size; omega) ⟨fun h => by have := h.1; omega, by omega⟩).trans BXW.out)
          have K10 := Lib.hid k10
          clear FX r10 k10 kp10 sh10 hfx b2 n0
          refine hK.out _ _ (fun _ => ⟨b10, n10⟩) ?_
          clear hK K hHeld
          have hHeld : w10.cell? ⟨bx, 2, none⟩ = some (.slice pA acc.length pc) ∧ w10.cell? ⟨nb, acc.length, none⟩ = some (.string nmi) := ⟨b10, n10⟩
          try simp only [Act.put, List.setIfInBounds_toArray, List.set_cons_zero, List.set_cons_succ]
          refine wpSk_take (i := 11) (v := ?hv11_3) rfl (by kernel_rfl) (fun _ _ _ h => h) (Or.inl ⟨by rfl, ?hy11_3⟩) (by assumption) ?hr11_3
          case hy11_3 => (intro wS hSw; (try dsimp only at hSw); go_simp; (try with_reducible rfl))
          try simp only [Act.put, List.setIfInBounds_toArray]
          refine wpSk_step (i := 12) (by kernel_rfl) rfl (fun K hK => ?_)
          go_simp
          have b12 : (w10.alloc (.cells #[.string nmi, .slice A7 L7.length c7] 31)).cell? ⟨bx, 2, none⟩ = some (.slice pA acc.length pc) := (World.cell?_alloc_lt _ _ _ (by show bx < _; omega)).trans b10
          have n12 : (w10.alloc (.cells #[.string nmi, .slice A7 L7.length c7] 31)).cell? ⟨nb, acc.length, none⟩ = some (.string nmi) := (World.cell?_alloc_lt _ _ _ (by show nb < _; omega)).trans n10
          refine hK.out _ _ (fun _ => ⟨b12, n12⟩) ?_
          clear hK K hHeld
          try simp only [Act.put, List.setIfInBounds_toArray, List.set_cons_zero, List.set_cons_succ]
          obtain ⟨cs, GG, hat⟩ := GR.out
          have HAT := Lib.hid hat
          have OWX := Lib.hid ((hat.keep PrG.keepP KW10.out (by intro b hb hb2 _; exact ⟨hb2, by omega⟩)).ow)
          clear hat
          refine wpSk_step (i := 13) (by kernel_rfl) rfl (fun K hK => ?_)
          refine step_appG _ prT (by rfl) _ _ (by rfl) (by rfl) (OWX.out.own.alloc _) _ 1 1 [.string nmi, .slice A7 L7.length c7] (by rfl) (Rd.new _ 2 1 _ _ rfl) (by simp [Value.oneCell']) (by omega) (by decide) ?_
          intro v13 w13 own13 gr13
          have GZ : Hid (Grew (.slice pA acc.length pc) v13 w10 w13) := Lib.hid ((Grew.of_below (Below.alloc (Below.refl _ _) (Nat.le_refl _) _)).trans gr13)
          have GX13 : Hid (GrwX PrG 31 2 w1.heap.size (fun _ => False) w13 v13 (acc ++ [(⟨nmi, lx⟩ : Pr)])) := Lib.hid (grwx_app PrG.keepP (S := fun b => b < wr.heap.size ∧ b ≠ p) HAT.out KW10.out (by intro b hb hb2 _; exact ⟨hb2, by omega⟩) rfl HPR.out (by intro b h; exact ⟨h.1, h.2, fun h => h⟩) (fun b _ h => h) own13 GZ.out)
          obtain ⟨acc', hacc⟩ : ∃ a', a' = acc ++ [(⟨nmi, lx⟩ : Pr)] := ⟨_, rfl⟩
          have HACC := Lib.hid hacc
          have hal : acc'.length = acc.length + 1 := by rw [hacc]; simp
          have HAL := Lib.hid hal
          rw [← hacc] at GX13
          clear hacc hal
          have hnb : ∀ b, b < w1.heap.size → (Value.slice pA acc.length pc).ownBlock ≠ some b := fun b hb e => by have := HAT.out.ow.lt b e; omega
          have BK13 : Hid (Keep (fun b => b < w1.heap.size) w10 w13) := Lib.hid (GZ.out.keep.mono fun b _ hb => hnb b hb)
          have b13 := BK13.out.cellEq (p := ⟨bx, 2, none⟩) (by show bx < _; omega) b10
          have n13 := BK13.out.cellEq (p := ⟨nb, acc.length, none⟩) (by show nb < _; omega) n10
          have BX13 : Hid (w13.heap[bx]? = some (.cells #[.slice (some ⟨gb, 0, none⟩) 4 4, .slice (some ⟨lb, 0, none⟩) 3 3, .slice pA acc.length pc] 27 (0, 0))) := Lib.hid ((BK13.out.block bx (by omega) (by omega)).trans BX10.out)
          have K13 : Hid (CurAt w13 p A c code k5) := Lib.hid ⟨(BK13.out.block p (lt_of_block K10.out.at') (by omega)).trans K10.out.at', K10.out.le⟩
          have hz13 : w10.heap.size ≤ w13.heap.size := BK13.out.size
          have KW13 : Hid (Keep (fun b => b < w1.heap.size ∧ b ≠ p) wr w13) := Lib.hid ((KW10.out.mono (fun b _ (h : b < w1.heap.size ∧ b ≠ p) => ⟨by have := h.1; omega, h.2⟩)).trans BK13.out (fun b _ h => h.1))
          obtain ⟨-, A13, c13, rfl, hA13, hc13⟩ : v13 = v13 ∧ ∃ A c, v13 = .slice A acc'.length c ∧ acc'.length ≤ c ∧ c ≤ maxLen := ⟨rfl, GX13.out.slice⟩
          refine hK.out _ _ (fun _ => ⟨b13, n13⟩) ?_
          clear hK K own13 gr13 b10 n10 b12 n12
          try simp only [Act.put, List.setIfInBounds_toArray]
          have hHeld : w13.cell? ⟨bx, 2, none⟩ = some (.slice pA acc.length pc) ∧ w13.cell? ⟨nb, acc.length, none⟩ = some (.string nmi) := ⟨b13, n13⟩
          refine wpSk_take (i := 14) (v := ?hv14_3) rfl (by kernel_rfl) (fun _ _ _ h => h) (Or.inl ⟨by rfl, ?hy14_3⟩) (by assumption) ?hr14_3
          case hy14_3 => (intro wS hSw; (try dsimp only at hSw); go_simp; (try with_reducible rfl))
          try simp only [Act.put]
          clear hHeld
          have f13 : w13.frozen? ⟨bx, 2, none⟩ = false := (cells3 BX13.out).2.2.2
          refine wpSk_step (i := 15) (by kernel_rfl) rfl (fun K hK => ?_)
          go_simp
          refine hK.out _ _ (fun h => absurd h (by decide)) ?_
          clear hK K
          refine wpSk_done (by kernel_rfl) ?_ _
          have HNEW : Hid (prsD code ns (N - acc'.length) acc' k5 = FIN) := Lib.hid (by
            have hq := PR.out
            have hal := HAL.out
            rw [show N - acc.length = (N - acc'.length) + 1 by omega, prsD_more HBD.out] at hq
            have hns : ns[acc.length]?.getD ByteArray.empty = nmi := by rw [HNL.out.2, List.getElem?_take, if_pos hlt, HNMI.out, List.getElem?_eq_getElem (by exact hi4)]; rfl
            rw [hns, ← HACC.out] at hq
            exact hq)
          go_wp2_with fail
          go_roundw
          case rel =>
            refine ⟨acc', k5, by have := HAL.out; omega, by rw [HAL.out]; go_num, Lib.hid ⟨_, ?_, GX13.out.keep PrG.keepP (Keep.setCell (S := fun b => b ≠ bx) (p := ⟨bx, 2, none⟩) (Keep.refl _ _) (fun h => h rfl) _) (fun b hb _ _ => by omega), K13.out.setNew (a := ⟨bx, 2, none⟩) (by show bx ≠ p; omega) _, ((KP.out.trans KW13.out (fun b hb h => ⟨h.1, h.2.1⟩)).setCell (p := ⟨bx, 2, none⟩) (fun h => h.2.2 rfl) _), HNEW.out⟩⟩
            rw [heap_setCell_same w13 bx 2 _ _ _ BX13.out]; rfl
          case measure => have := HAL.out; simp [intOf]; omega
      · have hzb : (z == 0) = false := by simp [hz]
        have HGR := Lib.hid (grdS_no (l := L4) HZ6.out hz)
        have ha7 := hA4
        -- STAGE C
        by_cases hi : acc.length = 0
        · have hib : ((acc.length : Int) == 0) = true := by simp [hi]
          have RBc : Hid (Rd w6 1 A code.length (bv code)) := Lib.hid (rd_apart RR'.out CU.out (P6.out.mono (fun b hb h => ⟨hb, h⟩)))
          have HI := Lib.hid hi
          clear hi
          go_wp2_with fail
          refine (spec_l01Once 2 p A c code k6' _ RBc.out hl hc K6.out (by omega)).mono ?_
          rintro e w8 ⟨rfl, k8, kp8⟩
          have K8 := Lib.hid k8
          have P8 : Hid (Keep (fun b => b < wr.heap.size ∧ b ≠ p) wr w8) := Lib.hid (P6.out.trans kp8 (fun _ _ h => h.2))
          have G8 := Lib.hid (G6.out.keep kp8 (fun b hb _ => by omega))
          have hz8 : wr.heap.size ≤ w8.heap.size := P8.out.size
          generalize hb8 : belowD code 2 k6' = z8 at *
          obtain ⟨y, k8'⟩ := z8
          have HZ8 := Lib.hid hb8
          clear k8 kp8 hb8 RBc K6 P6 G6
          simp only at K8
          by_cases hy : y = 0
          · have hyb : (y == 0) = true := by simp [hy]
            have HY0 := Lib.hid hy
            clear hy
            have NB8 : Hid (w8.heap[nb]? = some (.cells nmA 9 (0, 0))) := Lib.hid ((P8.out.block nb (by omega) ⟨by omega, by omega⟩).trans NBr.out)
            have n1 : w8.cell? ⟨nb, 1, none⟩ = some (.string ⟨#[112]⟩) := by rw [Lib.cell_of_heap NB8.out]; rfl
            have HNS1 : Hid (ns[1]?.getD ByteArray.empty = ⟨#[112]⟩) := Lib.hid (by rw [HNL.out.2, List.getElem?_take, if_pos (by omega)]; rfl)
            have h1N : (1 : Int) < (N : Int) := by omega
            obtain ⟨ys, GY, hyl, ry, hy⟩ := stRowO_to G8.out.rowB
            have GP : Hid (GrwO w8.heap.size (w8.alloc (.cells #[.int .i64 5, .string ⟨#[112]⟩, .int .i64 0, .int .i64 0, .string ⟨#[]⟩, .slice none 0 0, .slice none 0 0, .slice none 0 0] 36)) (.slice (some ⟨w8.heap.size, 0, none⟩) 1 1) [spawnS ⟨#[112]⟩]) := Lib.hid (grwO_lit ⟨5, ⟨#[112]⟩, 0, 0, ⟨#[]⟩, none, 0, 0, none, 0, 0, none, 0, 0⟩ (spawnS ⟨#[112]⟩) w8 (fun w' => flatO 5 ⟨#[112]⟩ (by unfold i64in; omega) (by simp [maxLen]; decide) w'))
            have RY := Lib.hid (ry.keep (w' := w8.alloc (.cells #[.int .i64 5, .string ⟨#[112]⟩, .int .i64 0, .int .i64 0, .string ⟨#[]⟩, .slice none 0 0, .slice none 0 0, .slice none 0 0] 36)) (fun b hb => heap_alloc_lt hb.2))
            have HY : Hid (∀ i (h : i < L4.length) (h' : i < ys.length), StO (w8.alloc (.cells #[.int .i64 5, .string ⟨#[112]⟩, .int .i64 0, .int .i64 0, .string ⟨#[]⟩, .slice none 0 0, .slice none 0 0, .slice none 0 0] 36)) (GY i) ys[i] L4[i]) := Lib.hid (fun i hi hi' => (hy i hi hi').keep fun b hb => heap_alloc_lt (ry.2.2.1 i b hi hb).2)
            have HYL := Lib.hid hyl
            have YRD := Lib.hid RY.out.1
            clear ry hy hyl
            obtain ⟨LP, hLP⟩ : ∃ L', L' = [spawnS ⟨#[112]⟩] := ⟨_, rfl⟩
            have hlLP : LP.length ≤ 1 := by rw [hLP]; simp
            have HLP := Lib.hid hLP
            rw [← hLP] at GP
            clear hLP
            obtain ⟨xs8, G8, hxl8, ow8, hG8, hd8, hx8⟩ := GP.out
            have OW8 := Lib.hid ow8.own
            have OX8 := Lib.hid ow8
            have HX8 := Lib.hid (And.intro hxl8 (And.intro hG8 (And.intro hd8 hx8)))
            clear ow8 hxl8 hG8 hd8 hx8
            go_wp2_with (at_builtin; first | (refine wpList_appG rfl _ _ _ rfl sgT rfl OW8.out A4 L4.length c4 (ys.flatMap V8.cells) rfl YRD.out (v8_one ys) (by simp only [maxLen]; omega) (by omega) ?_; intro v9 w9 own9 gr9; have GN9 : Hid (GrwO wr.heap.size w9 v9 (LP ++ L4)) := Lib.hid (grw_cat (S := fun _ => True) HX8.out.1 OX8.out HX8.out.2.1 HX8.out.2.2.1 HX8.out.2.2.2 hz8 (Keep.refl _ _) (fun _ _ _ => trivial) HYL.out RY.out HY.out (fun b hb => ⟨hb.1, by have := hb.2; simp; omega, fun h => by have := hb.2; have := h.1; omega⟩) own9 gr9); have BG9 : Hid (Keep (fun b => b < w8.heap.size) w8 w9) := Lib.hid (((Keep.refl (fun b => b < w8.heap.size) w8).alloc _).trans (gr9.keep.mono (S' := fun b => b < w8.heap.size) fun b _ hb e => by have := OX8.out.lt b e; omega) (fun _ _ h => h)); have LA9 : v9 = v9 ∧ ∃ A c, v9 = .slice A (LP ++ L4).length c ∧ (LP ++ L4).length ≤ c ∧ c ≤ maxLen := ⟨rfl, GN9.out.slice⟩; obtain ⟨-, A9, c9, rfl, hA9, hc9⟩ := LA9; obtain ⟨L9, hL9⟩ : ∃ L', L' = LP ++ L4 := ⟨_, rfl⟩; have hlL9 : L9.length ≤ LP.length + L4.length := (by rw [hL9, List.length_append]; omega); have HL9 := Lib.hid hL9; rw [← hL9] at GN9 hA9 ⊢; clear hL9 own9 gr9))
            have K9 : Hid (CurAt w9 p A c code k8') := Lib.hid ⟨by rw [BG9.out.block p (lt_of_block K8.out.at') (by omega)]; exact K8.out.at', K8.out.le⟩
            have P9 : Hid (Keep (fun b => b < wr.heap.size ∧ b ≠ p) wr w9) := Lib.hid (P8.out.trans BG9.out (fun b _ h => by have := h.1; omega))
            have HSP : Hid (spnS code ns acc.length L4 k6' = (L9, k8')) := Lib.hid (by rw [HI.out, spnS_zero_yes HZ8.out HY0.out, HNS1.out, HL9.out, HLP.out])
            have hz9 : wr.heap.size ≤ w9.heap.size := P9.out.size
            -- STAGE D
            have BXW : Hid (w9.heap[bx]? = some (.cells #[.slice (some ⟨gb, 0, none⟩) 4 4, .slice (some ⟨lb, 0, none⟩) 3 3, .slice pA acc.length pc] 27 (0, 0))) := Lib.hid ((P9.out.block bx (by omega) ⟨by omega, by omega⟩).trans BX.out)
            have NBW : Hid (w9.heap[nb]? = some (.cells nmA 9 (0, 0))) := Lib.hid ((P9.out.block nb (by omega) ⟨by omega, by omega⟩).trans NBr.out)
            have RBW : Hid (Rd w9 1 A code.length (bv code)) := Lib.hid (rd_apart RR'.out CU.out (P9.out.mono (fun b hb h => ⟨hb, h⟩)))
            obtain ⟨nmi, hnmi⟩ : ∃ s, s = nmD[acc.length] := ⟨_, rfl⟩
            have HNMI := Lib.hid hnmi
            have hnsz : nmi.size ≤ maxLen := by rw [hnmi]; exact nmD_sz _ (List.getElem_mem _)
            have b2 : w9.drew.cell? ⟨bx, 2, none⟩ = some (.slice pA acc.length pc) := (cells3 BXW.out).1.2.2
            have n0 : w9.drew.cell? ⟨nb, acc.length, none⟩ = some (.string nmi) := by
              show w9.cell? _ = _
              rw [Lib.cell_of_heap NBW.out, HNMI.out]; exact nmA_get hi4
            have h1N' : (1 : Int) ≤ (N : Int) := by omega
            have DL : Hid ((ns.drop 1).length = N - 1) := Lib.hid (by rw [List.length_drop, HNL.out.1])
            have NMS : Hid (∀ s ∈ ns.drop 1, s.size ≤ maxLen) := Lib.hid (fun s hs => nmD_sz s (by have := List.mem_of_mem_drop hs; rw [HNL.out.2] at this; exact List.mem_of_mem_take this))
            have NRD : Hid (Rd w9.drew 1 (some ⟨nb, 1, none⟩) (ns.drop 1).length ((ns.drop 1).map Value.string)) := Lib.hid (by rw [HNL.out.2]; exact rd_nm NBW.out)
            clear hnmi
            refine wp_region_sk (fun w' => w'.cell? ⟨bx, 2, none⟩ = some (.slice pA acc.length pc) ∧ w'.cell? ⟨nb, acc.length, none⟩ = some (.string nmi)) 15 (by kernel_rfl) ⟨b2, n0⟩ (fun hHeld => ?_)
            refine wpSk_take (i := 0) (v := ?hv0_4) rfl (by kernel_rfl) (fun _ _ _ h => h) (Or.inl ⟨by rfl, ?hy0_4⟩) (by assumption) ?hr0_4
            case hy0_4 => (intro wS hSw; (try dsimp only at hSw); go_simp; (try with_reducible rfl))
            try simp only [Act.put, List.setIfInBounds_toArray]
            refine wpSk_take (i := 1) (v := ?hv1_4) rfl (by kernel_rfl) (fun _ _ _ h => h) (Or.inl ⟨by rfl, ?hy1_4⟩) (by assumption) ?hr1_4
            case hy1_4 => (intro wS hSw; (try dsimp only at hSw); go_simp; (try with_reducible rfl))
            try simp only [Act.put]
            refine wpSk_take (i := 2) (v := ?hv2_4) rfl (by kernel_rfl) (fun _ _ _ h => h) (Or.inl ⟨by rfl, ?hy2_4⟩) (by assumption) ?hr2_4
            case hy2_4 => (intro wS hSw; (try dsimp only at hSw); go_simp; (try with_reducible rfl))
            try simp only [Act.put]
            refine wpSk_take (i := 3) (v := ?hv3_4) rfl (by kernel_rfl) (fun _ _ _ h => h) (Or.inl ⟨by rfl, ?hy3_4⟩) (by assumption) ?hr3_4
            case hy3_4 => (intro wS hSw; (try dsimp only at hSw); go_simp; (try with_reducible rfl))
            try simp only [Act.put]
            refine wpSk_take (i := 4) (v := ?hv4_4) rfl (by kernel_rfl) (fun _ _ _ h => h) (Or.inl ⟨by rfl, ?hy4_4⟩) (by assumption) ?hr4_4
            case hy4_4 => (intro wS hSw; (try dsimp only at hSw); go_simp; (try with_reducible rfl))
            try simp only [Act.put]
            refine wpSk_take (i := 5) (v := ?hv5_4) rfl (by kernel_rfl) (fun _ _ _ h => h) (Or.inl ⟨by rfl, ?hy5_4⟩) (by assumption) ?hr5_4
            case hy5_4 => (intro wS hSw; (try dsimp only at hSw); go_simp; (try with_reducible rfl))
            try simp only [Act.put]
            refine wpSk_take (i := 6) (v := ?hv6_4) rfl (by kernel_rfl) (fun _ _ _ h => h) (Or.inl ⟨by rfl, ?hy6_4⟩) (by assumption) ?hr6_4
            case hy6_4 => (intro wS hSw; (try dsimp only at hSw); go_simp; (try with_reducible rfl))
            try simp only [Act.put]
            refine wpSk_take (i := 7) (v := ?hv7_4) rfl (by kernel_rfl) (fun _ _ _ h => h) (Or.inl ⟨by rfl, ?hy7_4⟩) (by assumption) ?hr7_4
            case hy7_4 => (intro wS hSw; (try dsimp only at hSw); go_simp; (try with_reducible rfl))
            try simp only [Act.put]
            refine wpSk_take (i := 8) (v := ?hv8_4) rfl (by kernel_rfl) (fun _ _ _ h => h) (Or.inl ⟨by rfl, ?hy8_4⟩) (by assumption) ?hr8_4
            case hy8_4 => (intro wS hSw; (try dsimp only at hSw); go_simp; (try with_reducible rfl))
            try simp only [Act.put]
            refine wpSk_take (i := 9) (v := ?hv9_4) rfl (by kernel_rfl) (fun _ _ _ h => h) (Or.inl ⟨by rfl, ?hy9_4⟩) (by assumption) ?hr9_4
            case hy9_4 => (intro wS hSw; (try dsimp only at hSw); go_simp; (try with_reducible rfl))
            try simp only [Act.put]
            have hN2 : 0 < N - 1 := by omega
            have HLC := Lib.hid (grwO_cap GN9.out)
            refine wpSk_step (i := 10) (by kernel_rfl) rfl (fun K hK => ?_)
            go_simp
            have FX := spec_l05Fix L9 (ns.drop 1) nb 1 3 p A c code k8' (fun b => wr.heap.size ≤ b ∧ b < w9.heap.size) A9 c9 w9.drew (by rw [DL.out]; omega) (by rw [DL.out]; omega) NMS.out NRD.out (fun h => by have := h.1; omega) (by omega) RBW.out (fun b off e hn h => by have := rd_lt RD.out e hn; have := h.1; omega) hl hc ⟨K9.out.at', K9.out.le⟩ (fun h => by have := h.1; omega) (GN9.out.rowB.keep fun _ _ => rfl) (fun b h => h.2) HLC.out.1 HLC.out.2
            rw [DL.out] at FX
            refine FX.mono ?_
            rintro e w10 ⟨rfl, r10, k10, kp10, sh10⟩
            have hfl := fixGs_len code (ns.drop 1) L9 k8'
            generalize hfx : fixGs code (ns.drop 1) L9 k8' = rx at *
            obtain ⟨lx, k5⟩ := rx
            simp only at r10 k10 hfl
            have HBD := Lib.hid (bdyD_of HTW.out HRAW.out HGR.out HSP.out hfx)
            have hz10 : w9.heap.size ≤ w10.heap.size := kp10.size
            have hzW : wr.heap.size ≤ w9.heap.size := P9.out.size
            have HPR : Hid (PrG w10 (fun b => wr.heap.size ≤ b ∧ b < w10.heap.size) [.string nmi, .slice A9 L9.length c9] ⟨nmi, lx⟩) := Lib.hid ⟨⟨nmi, A9, L9.length, c9⟩, rfl, ⟨rfl, hfl.symm, hnsz, by rw [show (⟨nmi, lx⟩ : Pr).body = lx from rfl, hfl]; exact HLC.out.1, HLC.out.2, r10.sub (fun b h => ⟨h.1, by have := h.2; omega⟩)⟩, (GN9.out.cap.shp sh10).sub (fun b h => ⟨h.1, by have := h.2; omega⟩)⟩
            have KW10 : Hid (Keep (fun b => b < wr.heap.size ∧ b ≠ p) wr w10) := Lib.hid (P9.out.trans (⟨kp10.os, kp10.tape, kp10.output, kp10.size, kp10.block⟩ : Keep _ w9 w10) (fun b hb h => ⟨fun hf => by have := hf.1; omega, h.2⟩))
            have b10 := kp10.cellEq (p := ⟨bx, 2, none⟩) ⟨fun h => by have : wr.heap.size ≤ bx := h.1; omega, by show bx ≠ p; omega⟩ b2
            have n10 := kp10.cellEq (p := ⟨nb, acc.length, none⟩) ⟨fun h => by have : wr.heap.size ≤ nb := h.1; omega, by show nb ≠ p; omega⟩ n0
            have BX10 : Hid (w10.heap[bx]? = some (.cells #[.slice (some ⟨gb, 0, none⟩) 4 4, .slice (some ⟨lb, 0, none⟩) 3 3, .slice pA acc.length pc] 27 (0, 0))) := Lib.hid ((kp10.block bx (by show bx < w9.heap.size; omega) ⟨fun h => by have := h.1; omega, by omega⟩).trans BXW.out)
            have K10 := Lib.hid k10
            clear FX r10 k10 kp10 sh10 hfx b2 n0
            refine hK.out _ _ (fun _ => ⟨b10, n10⟩) ?_
            clear hK K hHeld
            have hHeld : w10.cell? ⟨bx, 2, none⟩ = some (.slice pA acc.length pc) ∧ w10.cell? ⟨nb, acc.length, none⟩ = some (.string nmi) := ⟨b10, n10⟩
            try simp only [Act.put, List.setIfInBounds_toArray, List.set_cons_zero, List.set_cons_succ]
            refine wpSk_take (i := 11) (v := ?hv11_4) rfl (by kernel_rfl) (fun _ _ _ h => h) (Or.inl ⟨by rfl, ?hy11_4⟩) (by assumption) ?hr11_4
            case hy11_4 => (intro wS hSw; (try dsimp only at hSw); go_simp; (try with_reducible rfl))
            try simp only [Act.put, List.setIfInBounds_toArray]
            refine wpSk_step (i := 12) (by kernel_rfl) rfl (fun K hK => ?_)
            go_simp
            have b12 : (w10.alloc (.cells #[.string nmi, .slice A9 L9.length c9] 31)).cell? ⟨bx, 2, none⟩ = some (.slice pA acc.length pc) := (World.cell?_alloc_lt _ _ _ (by show bx < _; omega)).trans b10
            have n12 : (w10.alloc (.cells #[.string nmi, .slice A9 L9.length c9] 31)).cell? ⟨nb, acc.length, none⟩ = some (.string nmi) := (World.cell?_alloc_lt _ _ _ (by show nb < _; omega)).trans n10
            refine hK.out _ _ (fun _ => ⟨b12, n12⟩) ?_
            clear hK K hHeld
            try simp only [Act.put, List.setIfInBounds_toArray, List.set_cons_zero, List.set_cons_succ]
            obtain ⟨cs, GG, hat⟩ := GR.out
            have HAT := Lib.hid hat
            have OWX := Lib.hid ((hat.keep PrG.keepP KW10.out (by intro b hb hb2 _; exact ⟨hb2, by omega⟩)).ow)
            clear hat
            refine wpSk_step (i := 13) (by kernel_rfl) rfl (fun K hK => ?_)
            refine step_appG _ prT (by rfl) _ _ (by rfl) (by rfl) (OWX.out.own.alloc _) _ 1 1 [.string nmi, .slice A9 L9.length c9] (by rfl) (Rd.new _ 2 1 _ _ rfl) (by simp [Value.oneCell']) (by omega) (by decide) ?_
            intro v13 w13 own13 gr13
            have GZ : Hid (Grew (.slice pA acc.length pc) v13 w10 w13) := Lib.hid ((Grew.of_below (Below.alloc (Below.refl _ _) (Nat.le_refl _) _)).trans gr13)
            have GX13 : Hid (GrwX PrG 31 2 w1.heap.size (fun _ => False) w13 v13 (acc ++ [(⟨nmi, lx⟩ : Pr)])) := Lib.hid (grwx_app PrG.keepP (S := fun b => b < wr.heap.size ∧ b ≠ p) HAT.out KW10.out (by intro b hb hb2 _; exact ⟨hb2, by omega⟩) rfl HPR.out (by intro b h; exact ⟨h.1, h.2, fun h => h⟩) (fun b _ h => h) own13 GZ.out)
            obtain ⟨acc', hacc⟩ : ∃ a', a' = acc ++ [(⟨nmi, lx⟩ : Pr)] := ⟨_, rfl⟩
            have HACC := Lib.hid hacc
            have hal : acc'.length = acc.length + 1 := by rw [hacc]; simp
            have HAL := Lib.hid hal
            rw [← hacc] at GX13
            clear hacc hal
            have hnb : ∀ b, b < w1.heap.size → (Value.slice pA acc.length pc).ownBlock ≠ some b := fun b hb e => by have := HAT.out.ow.lt b e; omega
            have BK13 : Hid (Keep (fun b => b < w1.heap.size) w10 w13) := Lib.hid (GZ.out.keep.mono fun b _ hb => hnb b hb)
            have b13 := BK13.out.cellEq (p := ⟨bx, 2, none⟩) (by show bx < _; omega) b10
            have n13 := BK13.out.cellEq (p := ⟨nb, acc.length, none⟩) (by show nb < _; omega) n10
            have BX13 : Hid (w13.heap[bx]? = some (.cells #[.slice (some ⟨gb, 0, none⟩) 4 4, .slice (some ⟨lb, 0, none⟩) 3 3, .slice pA acc.length pc] 27 (0, 0))) := Lib.hid ((BK13.out.block bx (by omega) (by omega)).trans BX10.out)
            have K13 : Hid (CurAt w13 p A c code k5) := Lib.hid ⟨(BK13.out.block p (lt_of_block K10.out.at') (by omega)).trans K10.out.at', K10.out.le⟩
            have hz13 : w10.heap.size ≤ w13.heap.size := BK13.out.size
            have KW13 : Hid (Keep (fun b => b < w1.heap.size ∧ b ≠ p) wr w13) := Lib.hid ((KW10.out.mono (fun b _ (h : b < w1.heap.size ∧ b ≠ p) => ⟨by have := h.1; omega, h.2⟩)).trans BK13.out (fun b _ h => h.1))
            obtain ⟨-, A13, c13, rfl, hA13, hc13⟩ : v13 = v13 ∧ ∃ A c, v13 = .slice A acc'.length c ∧ acc'.length ≤ c ∧ c ≤ maxLen := ⟨rfl, GX13.out.slice⟩
            refine hK.out _ _ (fun _ => ⟨b13, n13⟩) ?_
            clear hK K own13 gr13 b10 n10 b12 n12
            try simp only [Act.put, List.setIfInBounds_toArray]
            have hHeld : w13.cell? ⟨bx, 2, none⟩ = some (.slice pA acc.length pc) ∧ w13.cell? ⟨nb, acc.length, none⟩ = some (.string nmi) := ⟨b13, n13⟩
            refine wpSk_take (i := 14) (v := ?hv14_4) rfl (by kernel_rfl) (fun _ _ _ h => h) (Or.inl ⟨by rfl, ?hy14_4⟩) (by assumption) ?hr14_4
            case hy14_4 => (intro wS hSw; (try dsimp only at hSw); go_simp; (try with_reducible rfl))
            try simp only [Act.put]
            clear hHeld
            have f13 : w13.frozen? ⟨bx, 2, none⟩ = false := (cells3 BX13.out).2.2.2
            refine wpSk_step (i := 15) (by kernel_rfl) rfl (fun K hK => ?_)
            go_simp
            refine hK.out _ _ (fun h => absurd h (by decide)) ?_
            clear hK K
            refine wpSk_done (by kernel_rfl) ?_ _
            have HNEW : Hid (prsD code ns (N - acc'.length) acc' k5 = FIN) := Lib.hid (by
              have hq := PR.out
              have hal := HAL.out
              rw [show N - acc.length = (N - acc'.length) + 1 by omega, prsD_more HBD.out] at hq
              have hns : ns[acc.length]?.getD ByteArray.empty = nmi := by rw [HNL.out.2, List.getElem?_take, if_pos hlt, HNMI.out, List.getElem?_eq_getElem (by exact hi4)]; rfl
              rw [hns, ← HACC.out] at hq
              exact hq)
            go_wp2_with fail
            go_roundw
            case rel =>
              refine ⟨acc', k5, by have := HAL.out; omega, by rw [HAL.out]; go_num, Lib.hid ⟨_, ?_, GX13.out.keep PrG.keepP (Keep.setCell (S := fun b => b ≠ bx) (p := ⟨bx, 2, none⟩) (Keep.refl _ _) (fun h => h rfl) _) (fun b hb _ _ => by omega), K13.out.setNew (a := ⟨bx, 2, none⟩) (by show bx ≠ p; omega) _, ((KP.out.trans KW13.out (fun b hb h => ⟨h.1, h.2.1⟩)).setCell (p := ⟨bx, 2, none⟩) (fun h => h.2.2 rfl) _), HNEW.out⟩⟩
              rw [heap_setCell_same w13 bx 2 _ _ _ BX13.out]; rfl
            case measure => have := HAL.out; simp [intOf]; omega
          · have hyb : (y == 0) = false := by simp [hy]
            have HSP : Hid (spnS code ns acc.length L4 k6' = (L4, k8')) := Lib.hid (by rw [HI.out, spnS_zero_no HZ8.out hy])
            go_wp2_with fail
            -- STAGE D
            have BXW : Hid (w8.heap[bx]? = some (.cells #[.slice (some ⟨gb, 0, none⟩) 4 4, .slice (some ⟨lb, 0, none⟩) 3 3, .slice pA acc.length pc] 27 (0, 0))) := Lib.hid ((P8.out.block bx (by omega) ⟨by omega, by omega⟩).trans BX.out)
            have NBW : Hid (w8.heap[nb]? = some (.cells nmA 9 (0, 0))) := Lib.hid ((P8.out.block nb (by omega) ⟨by omega, by omega⟩).trans NBr.out)
            have RBW : Hid (Rd w8 1 A code.length (bv code)) := Lib.hid (rd_apart RR'.out CU.out (P8.out.mono (fun b hb h => ⟨hb, h⟩)))
            obtain ⟨nmi, hnmi⟩ : ∃ s, s = nmD[acc.length] := ⟨_, rfl⟩
            have HNMI := Lib.hid hnmi
            have hnsz : nmi.size ≤ maxLen := by rw [hnmi]; exact nmD_sz _ (List.getElem_mem _)
            have b2 : w8.drew.cell? ⟨bx, 2, none⟩ = some (.slice pA acc.length pc) := (cells3 BXW.out).1.2.2
            have n0 : w8.drew.cell? ⟨nb, acc.length, none⟩ = some (.string nmi) := by
              show w8.cell? _ = _
              rw [Lib.cell_of_heap NBW.out, HNMI.out]; exact nmA_get hi4
            have h1N' : (1 : Int) ≤ (N : Int) := by omega
            have DL : Hid ((ns.drop 1).length = N - 1) := Lib.hid (by rw [List.length_drop, HNL.out.1])
            have NMS : Hid (∀ s ∈ ns.drop 1, s.size ≤ maxLen) := Lib.hid (fun s hs => nmD_sz s (by have := List.mem_of_mem_drop hs; rw [HNL.out.2] at this; exact List.mem_of_mem_take this))
            have NRD : Hid (Rd w8.drew 1 (some ⟨nb, 1, none⟩) (ns.drop 1).length ((ns.drop 1).map Value.string)) := Lib.hid (by rw [HNL.out.2]; exact rd_nm NBW.out)
            clear hnmi
            refine wp_region_sk (fun w' => w'.cell? ⟨bx, 2, none⟩ = some (.slice pA acc.length pc) ∧ w'.cell? ⟨nb, acc.length, none⟩ = some (.string nmi)) 15 (by kernel_rfl) ⟨b2, n0⟩ (fun hHeld => ?_)
            refine wpSk_take (i := 0) (v := ?hv0_5) rfl (by kernel_rfl) (fun _ _ _ h => h) (Or.inl ⟨by rfl, ?hy0_5⟩) (by assumption) ?hr0_5
            case hy0_5 => (intro wS hSw; (try dsimp only at hSw); go_simp; (try with_reducible rfl))
            try simp only [Act.put, List.setIfInBounds_toArray]
            refine wpSk_take (i := 1) (v := ?hv1_5) rfl (by kernel_rfl) (fun _ _ _ h => h) (Or.inl ⟨by rfl, ?hy1_5⟩) (by assumption) ?hr1_5
            case hy1_5 => (intro wS hSw; (try dsimp only at hSw); go_simp; (try with_reducible rfl))
            try simp only [Act.put]
            refine wpSk_take (i := 2) (v := ?hv2_5) rfl (by kernel_rfl) (fun _ _ _ h => h) (Or.inl ⟨by rfl, ?hy2_5⟩) (by assumption) ?hr2_5
            case hy2_5 => (intro wS hSw; (try dsimp only at hSw); go_simp; (try with_reducible rfl))
            try simp only [Act.put]
            refine wpSk_take (i := 3) (v := ?hv3_5) rfl (by kernel_rfl) (fun _ _ _ h => h) (Or.inl ⟨by rfl, ?hy3_5⟩) (by assumption) ?hr3_5
            case hy3_5 => (intro wS hSw; (try dsimp only at hSw); go_simp; (try with_reducible rfl))
            try simp only [Act.put]
            refine wpSk_take (i := 4) (v := ?hv4_5) rfl (by kernel_rfl) (fun _ _ _ h => h) (Or.inl ⟨by rfl, ?hy4_5⟩) (by assumption) ?hr4_5
            case hy4_5 => (intro wS hSw; (try dsimp only at hSw); go_simp; (try with_reducible rfl))
            try simp only [Act.put]
            refine wpSk_take (i := 5) (v := ?hv5_5) rfl (by kernel_rfl) (fun _ _ _ h => h) (Or.inl ⟨by rfl, ?hy5_5⟩) (by assumption) ?hr5_5
            case hy5_5 => (intro wS hSw; (try dsimp only at hSw); go_simp; (try with_reducible rfl))
            try simp only [Act.put]
            refine wpSk_take (i := 6) (v := ?hv6_5) rfl (by kernel_rfl) (fun _ _ _ h => h) (Or.inl ⟨by rfl, ?hy6_5⟩) (by assumption) ?hr6_5
            case hy6_5 => (intro wS hSw; (try dsimp only at hSw); go_simp; (try with_reducible rfl))
            try simp only [Act.put]
            refine wpSk_take (i := 7) (v := ?hv7_5) rfl (by kernel_rfl) (fun _ _ _ h => h) (Or.inl ⟨by rfl, ?hy7_5⟩) (by assumption) ?hr7_5
            case hy7_5 => (intro wS hSw; (try dsimp only at hSw); go_simp; (try with_reducible rfl))
            try simp only [Act.put]
            refine wpSk_take (i := 8) (v := ?hv8_5) rfl (by kernel_rfl) (fun _ _ _ h => h) (Or.inl ⟨by rfl, ?hy8_5⟩) (by assumption) ?hr8_5
            case hy8_5 => (intro wS hSw; (try dsimp only at hSw); go_simp; (try with_reducible rfl))
            try simp only [Act.put]
            refine wpSk_take (i := 9) (v := ?hv9_5) rfl (by kernel_rfl) (fun _ _ _ h => h) (Or.inl ⟨by rfl, ?hy9_5⟩) (by assumption) ?hr9_5
            case hy9_5 => (intro wS hSw; (try dsimp only at hSw); go_simp; (try with_reducible rfl))
            try simp only [Act.put]
            have hN2 : 0 < N - 1 := by omega
            have HLC := Lib.hid (grwO_cap G8.out)
            refine wpSk_step (i := 10) (by kernel_rfl) rfl (fun K hK => ?_)
            go_simp
            have FX := spec_l05Fix L4 (ns.drop 1) nb 1 3 p A c code k8' (fun b => wr.heap.size ≤ b ∧ b < w8.heap.size) A4 c4 w8.drew (by rw [DL.out]; omega) (by rw [DL.out]; omega) NMS.out NRD.out (fun h => by have := h.1; omega) (by omega) RBW.out (fun b off e hn h => by have := rd_lt RD.out e hn; have := h.1; omega) hl hc ⟨K8.out.at', K8.out.le⟩ (fun h => by have := h.1; omega) (G8.out.rowB.keep fun _ _ => rfl) (fun b h => h.2) HLC.out.1 HLC.out.2
            rw [DL.out] at FX
            refine FX.mono ?_
            rintro e w10 ⟨rfl, r10, k10, kp10, sh10⟩
            have hfl := fixGs_len code (ns.drop 1) L4 k8'
            generalize hfx : fixGs code (ns.drop 1) L4 k8' = rx at *
            obtain ⟨lx, k5⟩ := rx
            simp only at r10 k10 hfl
            have HBD := Lib.hid (bdyD_of HTW.out HRAW.out HGR.out HSP.out hfx)
            have hz10 : w8.heap.size ≤ w10.heap.size := kp10.size
            have hzW : wr.heap.size ≤ w8.heap.size := P8.out.size
            have HPR : Hid (PrG w10 (fun b => wr.heap.size ≤ b ∧ b < w10.heap.size) [.string nmi, .slice A4 L4.length c4] ⟨nmi, lx⟩) := Lib.hid ⟨⟨nmi, A4, L4.length, c4⟩, rfl, ⟨rfl, hfl.symm, hnsz, by rw [show (⟨nmi, lx⟩ : Pr).body = lx from rfl, hfl]; exact HLC.out.1, HLC.out.2, r10.sub (fun b h => ⟨h.1, by have := h.2; omega⟩)⟩, (G8.out.cap.shp sh10).sub (fun b h => ⟨h.1, by have := h.2; omega⟩)⟩
            have KW10 : Hid (Keep (fun b => b < wr.heap.size ∧ b ≠ p) wr w10) := Lib.hid (P8.out.trans (⟨kp10.os, kp10.tape, kp10.output, kp10.size, kp10.block⟩ : Keep _ w8 w10) (fun b hb h => ⟨fun hf => by have := hf.1; omega, h.2⟩))
            have b10 := kp10.cellEq (p := ⟨bx, 2, none⟩) ⟨fun h => by have : wr.heap.size ≤ bx := h.1; omega, by show bx ≠ p; omega⟩ b2
            have n10 := kp10.cellEq (p := ⟨nb, acc.length, none⟩) ⟨fun h => by have : wr.heap.size ≤ nb := h.1; omega, by show nb ≠ p; omega⟩ n0
            have BX10 : Hid (w10.heap[bx]? = some (.cells #[.slice (some ⟨gb, 0, none⟩) 4 4, .slice (some ⟨lb, 0, none⟩) 3 3, .slice pA acc.length pc] 27 (0, 0))) := Lib.hid ((kp10.block bx (by show bx < w8.heap.size; omega) ⟨fun h => by have := h.1; omega, by omega⟩).trans BXW.out)
            have K10 := Lib.hid k10
            clear FX r10 k10 kp10 sh10 hfx b2 n0
            refine hK.out _ _ (fun _ => ⟨b10, n10⟩) ?_
            clear hK K hHeld
            have hHeld : w10.cell? ⟨bx, 2, none⟩ = some (.slice pA acc.length pc) ∧ w10.cell? ⟨nb, acc.length, none⟩ = some (.string nmi) := ⟨b10, n10⟩
            try simp only [Act.put, List.setIfInBounds_toArray, List.set_cons_zero, List.set_cons_succ]
            refine wpSk_take (i := 11) (v := ?hv11_5) rfl (by kernel_rfl) (fun _ _ _ h => h) (Or.inl ⟨by rfl, ?hy11_5⟩) (by assumption) ?hr11_5
            case hy11_5 => (intro wS hSw; (try dsimp only at hSw); go_simp; (try with_reducible rfl))
            try simp only [Act.put, List.setIfInBounds_toArray]
            refine wpSk_step (i := 12) (by kernel_rfl) rfl (fun K hK => ?_)
            go_simp
            have b12 : (w10.alloc (.cells #[.string nmi, .slice A4 L4.length c4] 31)).cell? ⟨bx, 2, none⟩ = some (.slice pA acc.length pc) := (World.cell?_alloc_lt _ _ _ (by show bx < _; omega)).trans b10
            have n12 : (w10.alloc (.cells #[.string nmi, .slice A4 L4.length c4] 31)).cell? ⟨nb, acc.length, none⟩ = some (.string nmi) := (World.cell?_alloc_lt _ _ _ (by show nb < _; omega)).trans n10
            refine hK.out _ _ (fun _ => ⟨b12, n12⟩) ?_
            clear hK K hHeld
            try simp only [Act.put, List.setIfInBounds_toArray, List.set_cons_zero, List.set_cons_succ]
            obtain ⟨cs, GG, hat⟩ := GR.out
            have HAT := Lib.hid hat
            have OWX := Lib.hid ((hat.keep PrG.keepP KW10.out (by intro b hb hb2 _; exact ⟨hb2, by omega⟩)).ow)
            clear hat
            refine wpSk_step (i := 13) (by kernel_rfl) rfl (fun K hK => ?_)
            refine step_appG _ prT (by rfl) _ _ (by rfl) (by rfl) (OWX.out.own.alloc _) _ 1 1 [.string nmi, .slice A4 L4.length c4] (by rfl) (Rd.new _ 2 1 _ _ rfl) (by simp [Value.oneCell']) (by omega) (by decide) ?_
            intro v13 w13 own13 gr13
            have GZ : Hid (Grew (.slice pA acc.length pc) v13 w10 w13) := Lib.hid ((Grew.of_below (Below.alloc (Below.refl _ _) (Nat.le_refl _) _)).trans gr13)
            have GX13 : Hid (GrwX PrG 31 2 w1.heap.size (fun _ => False) w13 v13 (acc ++ [(⟨nmi, lx⟩ : Pr)])) := Lib.hid (grwx_app PrG.keepP (S := fun b => b < wr.heap.size ∧ b ≠ p) HAT.out KW10.out (by intro b hb hb2 _; exact ⟨hb2, by omega⟩) rfl HPR.out (by intro b h; exact ⟨h.1, h.2, fun h => h⟩) (fun b _ h => h) own13 GZ.out)
            obtain ⟨acc', hacc⟩ : ∃ a', a' = acc ++ [(⟨nmi, lx⟩ : Pr)] := ⟨_, rfl⟩
            have HACC := Lib.hid hacc
            have hal : acc'.length = acc.length + 1 := by rw [hacc]; simp
            have HAL := Lib.hid hal
            rw [← hacc] at GX13
            clear hacc hal
            have hnb : ∀ b, b < w1.heap.size → (Value.slice pA acc.length pc).ownBlock ≠ some b := fun b hb e => by have := HAT.out.ow.lt b e; omega
            have BK13 : Hid (Keep (fun b => b < w1.heap.size) w10 w13) := Lib.hid (GZ.out.keep.mono fun b _ hb => hnb b hb)
            have b13 := BK13.out.cellEq (p := ⟨bx, 2, none⟩) (by show bx < _; omega) b10
            have n13 := BK13.out.cellEq (p := ⟨nb, acc.length, none⟩) (by show nb < _; omega) n10
            have BX13 : Hid (w13.heap[bx]? = some (.cells #[.slice (some ⟨gb, 0, none⟩) 4 4, .slice (some ⟨lb, 0, none⟩) 3 3, .slice pA acc.length pc] 27 (0, 0))) := Lib.hid ((BK13.out.block bx (by omega) (by omega)).trans BX10.out)
            have K13 : Hid (CurAt w13 p A c code k5) := Lib.hid ⟨(BK13.out.block p (lt_of_block K10.out.at') (by omega)).trans K10.out.at', K10.out.le⟩
            have hz13 : w10.heap.size ≤ w13.heap.size := BK13.out.size
            have KW13 : Hid (Keep (fun b => b < w1.heap.size ∧ b ≠ p) wr w13) := Lib.hid ((KW10.out.mono (fun b _ (h : b < w1.heap.size ∧ b ≠ p) => ⟨by have := h.1; omega, h.2⟩)).trans BK13.out (fun b _ h => h.1))
            obtain ⟨-, A13, c13, rfl, hA13, hc13⟩ : v13 = v13 ∧ ∃ A c, v13 = .slice A acc'.length c ∧ acc'.length ≤ c ∧ c ≤ maxLen := ⟨rfl, GX13.out.slice⟩
            refine hK.out _ _ (fun _ => ⟨b13, n13⟩) ?_
            clear hK K own13 gr13 b10 n10 b12 n12
            try simp only [Act.put, List.setIfInBounds_toArray]
            have hHeld : w13.cell? ⟨bx, 2, none⟩ = some (.slice pA acc.length pc) ∧ w13.cell? ⟨nb, acc.length, none⟩ = some (.string nmi) := ⟨b13, n13⟩
            refine wpSk_take (i := 14) (v := ?hv14_5) rfl (by kernel_rfl) (fun _ _ _ h => h) (Or.inl ⟨by rfl, ?hy14_5⟩) (by assumption) ?hr14_5
            case hy14_5 => (intro wS hSw; (try dsimp only at hSw); go_simp; (try with_reducible rfl))
            try simp only [Act.put]
            clear hHeld
            have f13 : w13.frozen? ⟨bx, 2, none⟩ = false := (cells3 BX13.out).2.2.2
            refine wpSk_step (i := 15) (by kernel_rfl) rfl (fun K hK => ?_)
            go_simp
            refine hK.out _ _ (fun h => absurd h (by decide)) ?_
            clear hK K
            refine wpSk_done (by kernel_rfl) ?_ _
            have HNEW : Hid (prsD code ns (N - acc'.length) acc' k5 = FIN) := Lib.hid (by
              have hq := PR.out
              have hal := HAL.out
              rw [show N - acc.length = (N - acc'.length) + 1 by omega, prsD_more HBD.out] at hq
              have hns : ns[acc.length]?.getD ByteArray.empty = nmi := by rw [HNL.out.2, List.getElem?_take, if_pos hlt, HNMI.out, List.getElem?_eq_getElem (by exact hi4)]; rfl
              rw [hns, ← HACC.out] at hq
              exact hq)
            go_wp2_with fail
            go_roundw
            case rel =>
              refine ⟨acc', k5, by have := HAL.out; omega, by rw [HAL.out]; go_num, Lib.hid ⟨_, ?_, GX13.out.keep PrG.keepP (Keep.setCell (S := fun b => b ≠ bx) (p := ⟨bx, 2, none⟩) (Keep.refl _ _) (fun h => h rfl) _) (fun b hb _ _ => by omega), K13.out.setNew (a := ⟨bx, 2, none⟩) (by show bx ≠ p; omega) _, ((KP.out.trans KW13.out (fun b hb h => ⟨h.1, h.2.1⟩)).setCell (p := ⟨bx, 2, none⟩) (fun h => h.2.2 rfl) _), HNEW.out⟩⟩
              rw [heap_setCell_same w13 bx 2 _ _ _ BX13.out]; rfl
            case measure => have := HAL.out; simp [intOf]; omega
        · have hib : ((acc.length : Int) == 0) = false := beq_eq_false_iff_ne.2 (by omega)
          have HSP := Lib.hid (spnS_more (code := code) (ns := ns) (l := L4) (k := k6') hi)
          go_wp2_with fail
          -- STAGE D
          have BXW : Hid (w6.heap[bx]? = some (.cells #[.slice (some ⟨gb, 0, none⟩) 4 4, .slice (some ⟨lb, 0, none⟩) 3 3, .slice pA acc.length pc] 27 (0, 0))) := Lib.hid ((P6.out.block bx (by omega) ⟨by omega, by omega⟩).trans BX.out)
          have NBW : Hid (w6.heap[nb]? = some (.cells nmA 9 (0, 0))) := Lib.hid ((P6.out.block nb (by omega) ⟨by omega, by omega⟩).trans NBr.out)
          have RBW : Hid (Rd w6 1 A code.length (bv code)) := Lib.hid (rd_apart RR'.out CU.out (P6.out.mono (fun b hb h => ⟨hb, h⟩)))
          obtain ⟨nmi, hnmi⟩ : ∃ s, s = nmD[acc.length] := ⟨_, rfl⟩
          have HNMI := Lib.hid hnmi
          have hnsz : nmi.size ≤ maxLen := by rw [hnmi]; exact nmD_sz _ (List.getElem_mem _)
          have b2 : w6.drew.cell? ⟨bx, 2, none⟩ = some (.slice pA acc.length pc) := (cells3 BXW.out).1.2.2
          have n0 : w6.drew.cell? ⟨nb, acc.length, none⟩ = some (.string nmi) := by
            show w6.cell? _ = _
            rw [Lib.cell_of_heap NBW.out, HNMI.out]; exact nmA_get hi4
          have h1N' : (1 : Int) ≤ (N : Int) := by omega
          have DL : Hid ((ns.drop 1).length = N - 1) := Lib.hid (by rw [List.length_drop, HNL.out.1])
          have NMS : Hid (∀ s ∈ ns.drop 1, s.size ≤ maxLen) := Lib.hid (fun s hs => nmD_sz s (by have := List.mem_of_mem_drop hs; rw [HNL.out.2] at this; exact List.mem_of_mem_take this))
          have NRD : Hid (Rd w6.drew 1 (some ⟨nb, 1, none⟩) (ns.drop 1).length ((ns.drop 1).map Value.string)) := Lib.hid (by rw [HNL.out.2]; exact rd_nm NBW.out)
          clear hnmi
          refine wp_region_sk (fun w' => w'.cell? ⟨bx, 2, none⟩ = some (.slice pA acc.length pc) ∧ w'.cell? ⟨nb, acc.length, none⟩ = some (.string nmi)) 15 (by kernel_rfl) ⟨b2, n0⟩ (fun hHeld => ?_)
          refine wpSk_take (i := 0) (v := ?hv0_6) rfl (by kernel_rfl) (fun _ _ _ h => h) (Or.inl ⟨by rfl, ?hy0_6⟩) (by assumption) ?hr0_6
          case hy0_6 => (intro wS hSw; (try dsimp only at hSw); go_simp; (try with_reducible rfl))
          try simp only [Act.put, List.setIfInBounds_toArray]
          refine wpSk_take (i := 1) (v := ?hv1_6) rfl (by kernel_rfl) (fun _ _ _ h => h) (Or.inl ⟨by rfl, ?hy1_6⟩) (by assumption) ?hr1_6
          case hy1_6 => (intro wS hSw; (try dsimp only at hSw); go_simp; (try with_reducible rfl))
          try simp only [Act.put]
          refine wpSk_take (i := 2) (v := ?hv2_6) rfl (by kernel_rfl) (fun _ _ _ h => h) (Or.inl ⟨by rfl, ?hy2_6⟩) (by assumption) ?hr2_6
          case hy2_6 => (intro wS hSw; (try dsimp only at hSw); go_simp; (try with_reducible rfl))
          try simp only [Act.put]
          refine wpSk_take (i := 3) (v := ?hv3_6) rfl (by kernel_rfl) (fun _ _ _ h => h) (Or.inl ⟨by rfl, ?hy3_6⟩) (by assumption) ?hr3_6
          case hy3_6 => (intro wS hSw; (try dsimp only at hSw); go_simp; (try with_reducible rfl))
          try simp only [Act.put]
          refine wpSk_take (i := 4) (v := ?hv4_6) rfl (by kernel_rfl) (fun _ _ _ h => h) (Or.inl ⟨by rfl, ?hy4_6⟩) (by assumption) ?hr4_6
          case hy4_6 => (intro wS hSw; (try dsimp only at hSw); go_simp; (try with_reducible rfl))
          try simp only [Act.put]
          refine wpSk_take (i := 5) (v := ?hv5_6) rfl (by kernel_rfl) (fun _ _ _ h => h) (Or.inl ⟨by rfl, ?hy5_6⟩) (by assumption) ?hr5_6
          case hy5_6 => (intro wS hSw; (try dsimp only at hSw); go_simp; (try with_reducible rfl))
          try simp only [Act.put]
          refine wpSk_take (i := 6) (v := ?hv6_6) rfl (by kernel_rfl) (fun _ _ _ h => h) (Or.inl ⟨by rfl, ?hy6_6⟩) (by assumption) ?hr6_6
          case hy6_6 => (intro wS hSw; (try dsimp only at hSw); go_simp; (try with_reducible rfl))
          try simp only [Act.put]
          refine wpSk_take (i := 7) (v := ?hv7_6) rfl (by kernel_rfl) (fun _ _ _ h => h) (Or.inl ⟨by rfl, ?hy7_6⟩) (by assumption) ?hr7_6
          case hy7_6 => (intro wS hSw; (try dsimp only at hSw); go_simp; (try with_reducible rfl))
          try simp only [Act.put]
          refine wpSk_take (i := 8) (v := ?hv8_6) rfl (by kernel_rfl) (fun _ _ _ h => h) (Or.inl ⟨by rfl, ?hy8_6⟩) (by assumption) ?hr8_6
          case hy8_6 => (intro wS hSw; (try dsimp only at hSw); go_simp; (try with_reducible rfl))
          try simp only [Act.put]
          refine wpSk_take (i := 9) (v := ?hv9_6) rfl (by kernel_rfl) (fun _ _ _ h => h) (Or.inl ⟨by rfl, ?hy9_6⟩) (by assumption) ?hr9_6
          case hy9_6 => (intro wS hSw; (try dsimp only at hSw); go_simp; (try with_reducible rfl))
          try simp only [Act.put]
          have hN2 : 0 < N - 1 := by omega
          have HLC := Lib.hid (grwO_cap G6.out)
          refine wpSk_step (i := 10) (by kernel_rfl) rfl (fun K hK => ?_)
          go_simp
          have FX := spec_l05Fix L4 (ns.drop 1) nb 1 3 p A c code k6' (fun b => wr.heap.size ≤ b ∧ b < w6.heap.size) A4 c4 w6.drew (by rw [DL.out]; omega) (by rw [DL.out]; omega) NMS.out NRD.out (fun h => by have := h.1; omega) (by omega) RBW.out (fun b off e hn h => by have := rd_lt RD.out e hn; have := h.1; omega) hl hc ⟨K6.out.at', K6.out.le⟩ (fun h => by have := h.1; omega) (G6.out.rowB.keep fun _ _ => rfl) (fun b h => h.2) HLC.out.1 HLC.out.2
          rw [DL.out] at FX
          refine FX.mono ?_
          rintro e w10 ⟨rfl, r10, k10, kp10, sh10⟩
          have hfl := fixGs_len code (ns.drop 1) L4 k6'
          generalize hfx : fixGs code (ns.drop 1) L4 k6' = rx at *
          obtain ⟨lx, k5⟩ := rx
          simp only at r10 k10 hfl
          have HBD := Lib.hid (bdyD_of HTW.out HRAW.out HGR.out HSP.out hfx)
          have hz10 : w6.heap.size ≤ w10.heap.size := kp10.size
          have hzW : wr.heap.size ≤ w6.heap.size := P6.out.size
          have HPR : Hid (PrG w10 (fun b => wr.heap.size ≤ b ∧ b < w10.heap.size) [.string nmi, .slice A4 L4.length c4] ⟨nmi, lx⟩) := Lib.hid ⟨⟨nmi, A4, L4.length, c4⟩, rfl, ⟨rfl, hfl.symm, hnsz, by rw [show (⟨nmi, lx⟩ : Pr).body = lx from rfl, hfl]; exact HLC.out.1, HLC.out.2, r10.sub (fun b h => ⟨h.1, by have := h.2; omega⟩)⟩, (G6.out.cap.shp sh10).sub (fun b h => ⟨h.1, by have := h.2; omega⟩)⟩
          have KW10 : Hid (Keep (fun b => b < wr.heap.size ∧ b ≠ p) wr w10) := Lib.hid (P6.out.trans (⟨kp10.os, kp10.tape, kp10.output, kp10.size, kp10.block⟩ : Keep _ w6 w10) (fun b hb h => ⟨fun hf => by have := hf.1; omega, h.2⟩))
          have b10 := kp10.cellEq (p := ⟨bx, 2, none⟩) ⟨fun h => by have : wr.heap.size ≤ bx := h.1; omega, by show bx ≠ p; omega⟩ b2
          have n10 := kp10.cellEq (p := ⟨nb, acc.length, none⟩) ⟨fun h => by have : wr.heap.size ≤ nb := h.1; omega, by show nb ≠ p; omega⟩ n0
          have BX10 : Hid (w10.heap[bx]? = some (.cells #[.slice (some ⟨gb, 0, none⟩) 4 4, .slice (some ⟨lb, 0, none⟩) 3 3, .slice pA acc.length pc] 27 (0, 0))) := Lib.hid ((kp10.block bx (by show bx < w6.heap.size; omega) ⟨fun h => by have := h.1; omega, by omega⟩).trans BXW.out)
          have K10 := Lib.hid k10
          clear FX r10 k10 kp10 sh10 hfx b2 n0
          refine hK.out _ _ (fun _ => ⟨b10, n10⟩) ?_
          clear hK K hHeld
          have hHeld : w10.cell? ⟨bx, 2, none⟩ = some (.slice pA acc.length pc) ∧ w10.cell? ⟨nb, acc.length, none⟩ = some (.string nmi) := ⟨b10, n10⟩
          try simp only [Act.put, List.setIfInBounds_toArray, List.set_cons_zero, List.set_cons_succ]
          refine wpSk_take (i := 11) (v := ?hv11_6) rfl (by kernel_rfl) (fun _ _ _ h => h) (Or.inl ⟨by rfl, ?hy11_6⟩) (by assumption) ?hr11_6
          case hy11_6 => (intro wS hSw; (try dsimp only at hSw); go_simp; (try with_reducible rfl))
          try simp only [Act.put, List.setIfInBounds_toArray]
          refine wpSk_step (i := 12) (by kernel_rfl) rfl (fun K hK => ?_)
          go_simp
          have b12 : (w10.alloc (.cells #[.string nmi, .slice A4 L4.length c4] 31)).cell? ⟨bx, 2, none⟩ = some (.slice pA acc.length pc) := (World.cell?_alloc_lt _ _ _ (by show bx < _; omega)).trans b10
          have n12 : (w10.alloc (.cells #[.string nmi, .slice A4 L4.length c4] 31)).cell? ⟨nb, acc.length, none⟩ = some (.string nmi) := (World.cell?_alloc_lt _ _ _ (by show nb < _; omega)).trans n10
          refine hK.out _ _ (fun _ => ⟨b12, n12⟩) ?_
          clear hK K hHeld
          try simp only [Act.put, List.setIfInBounds_toArray, List.set_cons_zero, List.set_cons_succ]
          obtain ⟨cs, GG, hat⟩ := GR.out
          have HAT := Lib.hid hat
          have OWX := Lib.hid ((hat.keep PrG.keepP KW10.out (by intro b hb hb2 _; exact ⟨hb2, by omega⟩)).ow)
          clear hat
          refine wpSk_step (i := 13) (by kernel_rfl) rfl (fun K hK => ?_)
          refine step_appG _ prT (by rfl) _ _ (by rfl) (by rfl) (OWX.out.own.alloc _) _ 1 1 [.string nmi, .slice A4 L4.length c4] (by rfl) (Rd.new _ 2 1 _ _ rfl) (by simp [Value.oneCell']) (by omega) (by decide) ?_
          intro v13 w13 own13 gr13
          have GZ : Hid (Grew (.slice pA acc.length pc) v13 w10 w13) := Lib.hid ((Grew.of_below (Below.alloc (Below.refl _ _) (Nat.le_refl _) _)).trans gr13)
          have GX13 : Hid (GrwX PrG 31 2 w1.heap.size (fun _ => False) w13 v13 (acc ++ [(⟨nmi, lx⟩ : Pr)])) := Lib.hid (grwx_app PrG.keepP (S := fun b => b < wr.heap.size ∧ b ≠ p) HAT.out KW10.out (by intro b hb hb2 _; exact ⟨hb2, by omega⟩) rfl HPR.out (by intro b h; exact ⟨h.1, h.2, fun h => h⟩) (fun b _ h => h) own13 GZ.out)
          obtain ⟨acc', hacc⟩ : ∃ a', a' = acc ++ [(⟨nmi, lx⟩ : Pr)] := ⟨_, rfl⟩
          have HACC := Lib.hid hacc
          have hal : acc'.length = acc.length + 1 := by rw [hacc]; simp
          have HAL := Lib.hid hal
          rw [← hacc] at GX13
          clear hacc hal
          have hnb : ∀ b, b < w1.heap.size → (Value.slice pA acc.length pc).ownBlock ≠ some b := fun b hb e => by have := HAT.out.ow.lt b e; omega
          have BK13 : Hid (Keep (fun b => b < w1.heap.size) w10 w13) := Lib.hid (GZ.out.keep.mono fun b _ hb => hnb b hb)
          have b13 := BK13.out.cellEq (p := ⟨bx, 2, none⟩) (by show bx < _; omega) b10
          have n13 := BK13.out.cellEq (p := ⟨nb, acc.length, none⟩) (by show nb < _; omega) n10
          have BX13 : Hid (w13.heap[bx]? = some (.cells #[.slice (some ⟨gb, 0, none⟩) 4 4, .slice (some ⟨lb, 0, none⟩) 3 3, .slice pA acc.length pc] 27 (0, 0))) := Lib.hid ((BK13.out.block bx (by omega) (by omega)).trans BX10.out)
          have K13 : Hid (CurAt w13 p A c code k5) := Lib.hid ⟨(BK13.out.block p (lt_of_block K10.out.at') (by omega)).trans K10.out.at', K10.out.le⟩
          have hz13 : w10.heap.size ≤ w13.heap.size := BK13.out.size
          have KW13 : Hid (Keep (fun b => b < w1.heap.size ∧ b ≠ p) wr w13) := Lib.hid ((KW10.out.mono (fun b _ (h : b < w1.heap.size ∧ b ≠ p) => ⟨by have := h.1; omega, h.2⟩)).trans BK13.out (fun b _ h => h.1))
          obtain ⟨-, A13, c13, rfl, hA13, hc13⟩ : v13 = v13 ∧ ∃ A c, v13 = .slice A acc'.length c ∧ acc'.length ≤ c ∧ c ≤ maxLen := ⟨rfl, GX13.out.slice⟩
          refine hK.out _ _ (fun _ => ⟨b13, n13⟩) ?_
          clear hK K own13 gr13 b10 n10 b12 n12
          try simp only [Act.put, List.setIfInBounds_toArray]
          have hHeld : w13.cell? ⟨bx, 2, none⟩ = some (.slice pA acc.length pc) ∧ w13.cell? ⟨nb, acc.length, none⟩ = some (.string nmi) := ⟨b13, n13⟩
          refine wpSk_take (i := 14) (v := ?hv14_6) rfl (by kernel_rfl) (fun _ _ _ h => h) (Or.inl ⟨by rfl, ?hy14_6⟩) (by assumption) ?hr14_6
          case hy14_6 => (intro wS hSw; (try dsimp only at hSw); go_simp; (try with_reducible rfl))
          try simp only [Act.put]
          clear hHeld
          have f13 : w13.frozen? ⟨bx, 2, none⟩ = false := (cells3 BX13.out).2.2.2
          refine wpSk_step (i := 15) (by kernel_rfl) rfl (fun K hK => ?_)
          go_simp
          refine hK.out _ _ (fun h => absurd h (by decide)) ?_
          clear hK K
          refine wpSk_done (by kernel_rfl) ?_ _
          have HNEW : Hid (prsD code ns (N - acc'.length) acc' k5 = FIN) := Lib.hid (by
            have hq := PR.out
            have hal := HAL.out
            rw [show N - acc.length = (N - acc'.length) + 1 by omega, prsD_more HBD.out] at hq
            have hns : ns[acc.length]?.getD ByteArray.empty = nmi := by rw [HNL.out.2, List.getElem?_take, if_pos hlt, HNMI.out, List.getElem?_eq_getElem (by exact hi4)]; rfl
            rw [hns, ← HACC.out] at hq
            exact hq)
          go_wp2_with fail
          go_roundw
          case rel =>
            refine ⟨acc', k5, by have := HAL.out; omega, by rw [HAL.out]; go_num, Lib.hid ⟨_, ?_, GX13.out.keep PrG.keepP (Keep.setCell (S := fun b => b ≠ bx) (p := ⟨bx, 2, none⟩) (Keep.refl _ _) (fun h => h rfl) _) (fun b hb _ _ => by omega), K13.out.setNew (a := ⟨bx, 2, none⟩) (by show bx ≠ p; omega) _, ((KP.out.trans KW13.out (fun b hb h => ⟨h.1, h.2.1⟩)).setCell (p := ⟨bx, 2, none⟩) (fun h => h.2.2 rfl) _), HNEW.out⟩⟩
            rw [heap_setCell_same w13 bx 2 _ _ _ BX13.out]; rfl
          case measure => have := HAL.out; simp [intOf]; omega
    · have HC := Lib.hid (cut0_neg (n := (50 : Int) - (snodess L4 : Int)) (by omega))
      have HRAW : Hid (rawS (l1 ++ l2) = [skipS]) := Lib.hid (by rw [← HL4.out]; unfold rawS; rw [if_neg hcnt])
      have GS : Hid (GrwO wr.heap.size (w5.alloc (.cells #[.int .i64 8, .string ⟨#[]⟩, .int .i64 0, .int .i64 0, .string ⟨#[]⟩, .slice none 0 0, .slice none 0 0, .slice none 0 0] 36)) (.slice (some ⟨w5.heap.size, 0, none⟩) 1 1) [skipS]) := Lib.hid ((grwO_lit ⟨8, ⟨#[]⟩, 0, 0, ⟨#[]⟩, none, 0, 0, none, 0, 0, none, 0, 0⟩ skipS w5 (fun w' => flatO 8 ⟨#[]⟩ (by unfold i64in; omega) (Nat.zero_le _) w')).mono hz5)
      have K5' : Hid (CurAt (w5.alloc (.cells #[.int .i64 8, .string ⟨#[]⟩, .int .i64 0, .int .i64 0, .string ⟨#[]⟩, .slice none 0 0, .slice none 0 0, .slice none 0 0] 36)) p A c code kb) := Lib.hid (K5.out.keep (by repeat' (first | exact Below.refl _ _ | exact Nat.le_refl _ | (refine Below.alloc ?_ ?_ _) | (refine Below.setCell ?_ ?_ _) | (refine Below.drew ?_) | (refine below_drewN ?_ _) | assumption | (simp; done) | (simp; omega))))
      have P5' : Hid (Keep (fun b => b < wr.heap.size ∧ b ≠ p) wr (w5.alloc (.cells #[.int .i64 8, .string ⟨#[]⟩, .int .i64 0, .int .i64 0, .string ⟨#[]⟩, .slice none 0 0, .slice none 0 0, .slice none 0 0] 36))) := Lib.hid (P5.out.alloc _)
      have hlLS : [skipS].length ≤ 1 := by simp
      rw [HC.out]
      clear HC hcnt
      go_wp2_with fail
      generalize hws : w5.alloc (.cells #[.int .i64 8, .string ⟨#[]⟩, .int .i64 0, .int .i64 0, .string ⟨#[]⟩, .slice none 0 0, .slice none 0 0, .slice none 0 0] 36) = ws at *
      have hz5' : wr.heap.size ≤ ws.heap.size := P5'.out.size
      clear hws G5 K5 P5 hz5
      -- STAGE B
      have RBb : Hid (Rd ws 1 A code.length (bv code)) := Lib.hid (rd_apart RR'.out CU.out (P5'.out.mono (fun b hb h => ⟨hb, h⟩)))
      refine (spec_l01Once 2 p A c code kb _ RBb.out hl hc K5'.out (by omega)).mono ?_
      rintro e w6 ⟨rfl, k6, kp6⟩
      have K6 := Lib.hid k6
      have P6 : Hid (Keep (fun b => b < wr.heap.size ∧ b ≠ p) wr w6) := Lib.hid (P5'.out.trans kp6 (fun _ _ h => h.2))
      have G6 := Lib.hid (GS.out.keep kp6 (fun b hb _ => by omega))
      have hz6 : wr.heap.size ≤ w6.heap.size := P6.out.size
      generalize hb6 : belowD code 2 kb = z6 at *
      obtain ⟨z, k6'⟩ := z6
      have HZ6 := Lib.hid hb6
      clear k6 kp6 hb6 RBb K5' P5' GS
      simp only at K6
      by_cases hz : z = 0
      · have hzb : (z == 0) = true := by simp [hz]
        have RB6 : Hid (Rd w6 1 A code.length (bv code)) := Lib.hid (rd_apart RR'.out CU.out (P6.out.mono (fun b hb h => ⟨hb, h⟩)))
        go_wp2_with fail
        refine (spec_l05Guarded wr.heap.size p A c code k6' (some ⟨w5.heap.size, 0, none⟩) 1 [skipS] w6 RB6.out hl hc K6.out hpw G6.out (by omega)).mono ?_
        rintro e w7 ⟨A7, c7, rfl, ha7, hc7, g7, k7, kp7⟩
        have hgl := guardS_len code [skipS] k6'
        generalize hg7 : guardS code [skipS] k6' = r7 at *
        obtain ⟨L7, k7'⟩ := r7
        simp only at ha7 g7 k7 hgl
        have HGR := Lib.hid (grdS_yes HZ6.out hz hg7)
        have G7 := Lib.hid g7
        have K7 := Lib.hid k7
        have P7 : Hid (Keep (fun b => b < wr.heap.size ∧ b ≠ p) wr w7) := Lib.hid (P6.out.trans kp7 (fun _ _ h => h))
        have hz7 : wr.heap.size ≤ w7.heap.size := P7.out.size
        clear hg7 g7 k7 kp7 G6 K6 P6 RB6
        -- STAGE C
        by_cases hi : acc.length = 0
        · have hib : ((acc.length : Int) == 0) = true := by simp [hi]
          have RBc : Hid (Rd w7 1 A code.length (bv code)) := Lib.hid (rd_apart RR'.out CU.out (P7.out.mono (fun b hb h => ⟨hb, h⟩)))
          have HI := Lib.hid hi
          clear hi
          go_wp2_with fail
          refine (spec_l01Once 2 p A c code k7' _ RBc.out hl hc K7.out (by omega)).mono ?_
          rintro e w8 ⟨rfl, k8, kp8⟩
          have K8 := Lib.hid k8
          have P8 : Hid (Keep (fun b => b < wr.heap.size ∧ b ≠ p) wr w8) := Lib.hid (P7.out.trans kp8 (fun _ _ h => h.2))
          have G8 := Lib.hid (G7.out.keep kp8 (fun b hb _ => by omega))
          have hz8 : wr.heap.size ≤ w8.heap.size := P8.out.size
          generalize hb8 : belowD code 2 k7' = z8 at *
          obtain ⟨y, k8'⟩ := z8
          have HZ8 := Lib.hid hb8
          clear k8 kp8 hb8 RBc K7 P7 G7
          simp only at K8
          by_cases hy : y = 0
          · have hyb : (y == 0) = true := by simp [hy]
            have HY0 := Lib.hid hy
            clear hy
            have NB8 : Hid (w8.heap[nb]? = some (.cells nmA 9 (0, 0))) := Lib.hid ((P8.out.block nb (by omega) ⟨by omega, by omega⟩).trans NBr.out)
            have n1 : w8.cell? ⟨nb, 1, none⟩ = some (.string ⟨#[112]⟩) := by rw [Lib.cell_of_heap NB8.out]; rfl
            have HNS1 : Hid (ns[1]?.getD ByteArray.empty = ⟨#[112]⟩) := Lib.hid (by rw [HNL.out.2, List.getElem?_take, if_pos (by omega)]; rfl)
            have h1N : (1 : Int) < (N : Int) := by omega
            obtain ⟨ys, GY, hyl, ry, hy⟩ := stRowO_to G8.out.rowB
            have GP : Hid (GrwO w8.heap.size (w8.alloc (.cells #[.int .i64 5, .string ⟨#[112]⟩, .int .i64 0, .int .i64 0, .string ⟨#[]⟩, .slice none 0 0, .slice none 0 0, .slice none 0 0] 36)) (.slice (some ⟨w8.heap.size, 0, none⟩) 1 1) [spawnS ⟨#[112]⟩]) := Lib.hid (grwO_lit ⟨5, ⟨#[112]⟩, 0, 0, ⟨#[]⟩, none, 0, 0, none, 0, 0, none, 0, 0⟩ (spawnS ⟨#[112]⟩) w8 (fun w' => flatO 5 ⟨#[112]⟩ (by unfold i64in; omega) (by simp [maxLen]; decide) w'))
            have RY := Lib.hid (ry.keep (w' := w8.alloc (.cells #[.int .i64 5, .string ⟨#[112]⟩, .int .i64 0, .int .i64 0, .string ⟨#[]⟩, .slice none 0 0, .slice none 0 0, .slice none 0 0] 36)) (fun b hb => heap_alloc_lt hb.2))
            have HY : Hid (∀ i (h : i < L7.length) (h' : i < ys.length), StO (w8.alloc (.cells #[.int .i64 5, .string ⟨#[112]⟩, .int .i64 0, .int .i64 0, .string ⟨#[]⟩, .slice none 0 0, .slice none 0 0, .slice none 0 0] 36)) (GY i) ys[i] L7[i]) := Lib.hid (fun i hi hi' => (hy i hi hi').keep fun b hb => heap_alloc_lt (ry.2.2.1 i b hi hb).2)
            have HYL := Lib.hid hyl
            have YRD := Lib.hid RY.out.1
            clear ry hy hyl
            obtain ⟨LP, hLP⟩ : ∃ L', L' = [spawnS ⟨#[112]⟩] := ⟨_, rfl⟩
            have hlLP : LP.length ≤ 1 := by rw [hLP]; simp
            have HLP := Lib.hid hLP
            rw [← hLP] at GP
            clear hLP
            obtain ⟨xs8, G8, hxl8, ow8, hG8, hd8, hx8⟩ := GP.out
            have OW8 := Lib.hid ow8.own
            have OX8 := Lib.hid ow8
            have HX8 := Lib.hid (And.intro hxl8 (And.intro hG8 (And.intro hd8 hx8)))
            clear ow8 hxl8 hG8 hd8 hx8
            go_wp2_with (at_builtin; first | (refine wpList_appG rfl _ _ _ rfl sgT rfl OW8.out A7 L7.length c7 (ys.flatMap V8.cells) rfl YRD.out (v8_one ys) (by simp only [maxLen]; omega) (by omega) ?_; intro v9 w9 own9 gr9; have GN9 : Hid (GrwO wr.heap.size w9 v9 (LP ++ L7)) := Lib.hid (grw_cat (S := fun _ => True) HX8.out.1 OX8.out HX8.out.2.1 HX8.out.2.2.1 HX8.out.2.2.2 hz8 (Keep.refl _ _) (fun _ _ _ => trivial) HYL.out RY.out HY.out (fun b hb => ⟨hb.1, by have := hb.2; simp; omega, fun h => by have := hb.2; have := h.1; omega⟩) own9 gr9); have BG9 : Hid (Keep (fun b => b < w8.heap.size) w8 w9) := Lib.hid (((Keep.refl (fun b => b < w8.heap.size) w8).alloc _).trans (gr9.keep.mono (S' := fun b => b < w8.heap.size) fun b _ hb e => by have := OX8.out.lt b e; omega) (fun _ _ h => h)); have LA9 : v9 = v9 ∧ ∃ A c, v9 = .slice A (LP ++ L7).length c ∧ (LP ++ L7).length ≤ c ∧ c ≤ maxLen := ⟨rfl, GN9.out.slice⟩; obtain ⟨-, A9, c9, rfl, hA9, hc9⟩ := LA9; obtain ⟨L9, hL9⟩ : ∃ L', L' = LP ++ L7 := ⟨_, rfl⟩; have hlL9 : L9.length ≤ LP.length + L7.length := (by rw [hL9, List.length_append]; omega); have HL9 := Lib.hid hL9; rw [← hL9] at GN9 hA9 ⊢; clear hL9 own9 gr9))
            have K9 : Hid (CurAt w9 p A c code k8') := Lib.hid ⟨by rw [BG9.out.block p (lt_of_block K8.out.at') (by omega)]; exact K8.out.at', K8.out.le⟩
            have P9 : Hid (Keep (fun b => b < wr.heap.size ∧ b ≠ p) wr w9) := Lib.hid (P8.out.trans BG9.out (fun b _ h => by have := h.1; omega))
            have HSP : Hid (spnS code ns acc.length L7 k7' = (L9, k8')) := Lib.hid (by rw [HI.out, spnS_zero_yes HZ8.out HY0.out, HNS1.out, HL9.out, HLP.out])
            have hz9 : wr.heap.size ≤ w9.heap.size := P9.out.size
            -- STAGE D
            have BXW : Hid (w9.heap[bx]? = some (.cells #[.slice (some ⟨gb, 0, none⟩) 4 4, .slice (some ⟨lb, 0, none⟩) 3 3, .slice pA acc.length pc] 27 (0, 0))) := Lib.hid ((P9.out.block bx (by omega) ⟨by omega, by omega⟩).trans BX.out)
            have NBW : Hid (w9.heap[nb]? = some (.cells nmA 9 (0, 0))) := Lib.hid ((P9.out.block nb (by omega) ⟨by omega, by omega⟩).trans NBr.out)
            have RBW : Hid (Rd w9 1 A code.length (bv code)) := Lib.hid (rd_apart RR'.out CU.out (P9.out.mono (fun b hb h => ⟨hb, h⟩)))
            obtain ⟨nmi, hnmi⟩ : ∃ s, s = nmD[acc.length] := ⟨_, rfl⟩
            have HNMI := Lib.hid hnmi
            have hnsz : nmi.size ≤ maxLen := by rw [hnmi]; exact nmD_sz _ (List.getElem_mem _)
            have b2 : w9.drew.cell? ⟨bx, 2, none⟩ = some (.slice pA acc.length pc) := (cells3 BXW.out).1.2.2
            have n0 : w9.drew.cell? ⟨nb, acc.length, none⟩ = some (.string nmi) := by
              show w9.cell? _ = _
              rw [Lib.cell_of_heap NBW.out, HNMI.out]; exact nmA_get hi4
            have h1N' : (1 : Int) ≤ (N : Int) := by omega
            have DL : Hid ((ns.drop 1).length = N - 1) := Lib.hid (by rw [List.length_drop, HNL.out.1])
            have NMS : Hid (∀ s ∈ ns.drop 1, s.size ≤ maxLen) := Lib.hid (fun s hs => nmD_sz s (by have := List.mem_of_mem_drop hs; rw [HNL.out.2] at this; exact List.mem_of_mem_take this))
            have NRD : Hid (Rd w9.drew 1 (some ⟨nb, 1, none⟩) (ns.drop 1).length ((ns.drop 1).map Value.string)) := Lib.hid (by rw [HNL.out.2]; exact rd_nm NBW.out)
            clear hnmi
            refine wp_region_sk (fun w' => w'.cell? ⟨bx, 2, none⟩ = some (.slice pA acc.length pc) ∧ w'.cell? ⟨nb, acc.length, none⟩ = some (.string nmi)) 15 (by kernel_rfl) ⟨b2, n0⟩ (fun hHeld => ?_)
            refine wpSk_take (i := 0) (v := ?hv0_7) rfl (by kernel_rfl) (fun _ _ _ h => h) (Or.inl ⟨by rfl, ?hy0_7⟩) (by assumption) ?hr0_7
            case hy0_7 => (intro wS hSw; (try dsimp only at hSw); go_simp; (try with_reducible rfl))
            try simp only [Act.put, List.setIfInBounds_toArray]
            refine wpSk_take (i := 1) (v := ?hv1_7) rfl (by kernel_rfl) (fun _ _ _ h => h) (Or.inl ⟨by rfl, ?hy1_7⟩) (by assumption) ?hr1_7
            case hy1_7 => (intro wS hSw; (try dsimp only at hSw); go_simp; (try with_reducible rfl))
            try simp only [Act.put]
            refine wpSk_take (i := 2) (v := ?hv2_7) rfl (by kernel_rfl) (fun _ _ _ h => h) (Or.inl ⟨by rfl, ?hy2_7⟩) (by assumption) ?hr2_7
            case hy2_7 => (intro wS hSw; (try dsimp only at hSw); go_simp; (try with_reducible rfl))
            try simp only [Act.put]
            refine wpSk_take (i := 3) (v := ?hv3_7) rfl (by kernel_rfl) (fun _ _ _ h => h) (Or.inl ⟨by rfl, ?hy3_7⟩) (by assumption) ?hr3_7
            case hy3_7 => (intro wS hSw; (try dsimp only at hSw); go_simp; (try with_reducible rfl))
            try simp only [Act.put]
            refine wpSk_take (i := 4) (v := ?hv4_7) rfl (by kernel_rfl) (fun _ _ _ h => h) (Or.inl ⟨by rfl, ?hy4_7⟩) (by assumption) ?hr4_7
            case hy4_7 => (intro wS hSw; (try dsimp only at hSw); go_simp; (try with_reducible rfl))
            try simp only [Act.put]
            refine wpSk_take (i := 5) (v := ?hv5_7) rfl (by kernel_rfl) (fun _ _ _ h => h) (Or.inl ⟨by rfl, ?hy5_7⟩) (by assumption) ?hr5_7
            case hy5_7 => (intro wS hSw; (try dsimp only at hSw); go_simp; (try with_reducible rfl))
            try simp only [Act.put]
            refine wpSk_take (i := 6) (v := ?hv6_7) rfl (by kernel_rfl) (fun _ _ _ h => h) (Or.inl ⟨by rfl, ?hy6_7⟩) (by assumption) ?hr6_7
            case hy6_7 => (intro wS hSw; (try dsimp only at hSw); go_simp; (try with_reducible rfl))
            try simp only [Act.put]
            refine wpSk_take (i := 7) (v := ?hv7_7) rfl (by kernel_rfl) (fun _ _ _ h => h) (Or.inl ⟨by rfl, ?hy7_7⟩) (by assumption) ?hr7_7
            case hy7_7 => (intro wS hSw; (try dsimp only at hSw); go_simp; (try with_reducible rfl))
            try simp only [Act.put]
            refine wpSk_take (i := 8) (v := ?hv8_7) rfl (by kernel_rfl) (fun _ _ _ h => h) (Or.inl ⟨by rfl, ?hy8_7⟩) (by assumption) ?hr8_7
            case hy8_7 => (intro wS hSw; (try dsimp only at hSw); go_simp; (try with_reducible rfl))
            try simp only [Act.put]
            refine wpSk_take (i := 9) (v := ?hv9_7) rfl (by kernel_rfl) (fun _ _ _ h => h) (Or.inl ⟨by rfl, ?hy9_7⟩) (by assumption) ?hr9_7
            case hy9_7 => (intro wS hSw; (try dsimp only at hSw); go_simp; (try with_reducible rfl))
            try simp only [Act.put]
            have hN2 : 0 < N - 1 := by omega
            have HLC := Lib.hid (grwO_cap GN9.out)
            refine wpSk_step (i := 10) (by kernel_rfl) rfl (fun K hK => ?_)
            go_simp
            have FX := spec_l05Fix L9 (ns.drop 1) nb 1 3 p A c code k8' (fun b => wr.heap.size ≤ b ∧ b < w9.heap.size) A9 c9 w9.drew (by rw [DL.out]; omega) (by rw [DL.out]; omega) NMS.out NRD.out (fun h => by have := h.1; omega) (by omega) RBW.out (fun b off e hn h => by have := rd_lt RD.out e hn; have := h.1; omega) hl hc ⟨K9.out.at', K9.out.le⟩ (fun h => by have := h.1; omega) (GN9.out.rowB.keep fun _ _ => rfl) (fun b h => h.2) HLC.out.1 HLC.out.2
            rw [DL.out] at FX
            refine FX.mono ?_
            rintro e w10 ⟨rfl, r10, k10, kp10, sh10⟩
            have hfl := fixGs_len code (ns.drop 1) L9 k8'
            generalize hfx : fixGs code (ns.drop 1) L9 k8' = rx at *
            obtain ⟨lx, k5⟩ := rx
            simp only at r10 k10 hfl
            have HBD := Lib.hid (bdyD_of HTW.out HRAW.out HGR.out HSP.out hfx)
            have hz10 : w9.heap.size ≤ w10.heap.size := kp10.size
            have hzW : wr.heap.size ≤ w9.heap.size := P9.out.size
            have HPR : Hid (PrG w10 (fun b => wr.heap.size ≤ b ∧ b < w10.heap.size) [.string nmi, .slice A9 L9.length c9] ⟨nmi, lx⟩) := Lib.hid ⟨⟨nmi, A9, L9.length, c9⟩, rfl, ⟨rfl, hfl.symm, hnsz, by rw [show (⟨nmi, lx⟩ : Pr).body = lx from rfl, hfl]; exact HLC.out.1, HLC.out.2, r10.sub (fun b h => ⟨h.1, by have := h.2; omega⟩)⟩, (GN9.out.cap.shp sh10).sub (fun b h => ⟨h.1, by have := h.2; omega⟩)⟩
            have KW10 : Hid (Keep (fun b => b < wr.heap.size ∧ b ≠ p) wr w10) := Lib.hid (P9.out.trans (⟨kp10.os, kp10.tape, kp10.output, kp10.size, kp10.block⟩ : Keep _ w9 w10) (fun b hb h => ⟨fun hf => by have := hf.1; omega, h.2⟩))
            have b10 := kp10.cellEq (p := ⟨bx, 2, none⟩) ⟨fun h => by have : wr.heap.size ≤ bx := h.1; omega, by show bx ≠ p; omega⟩ b2
            have n10 := kp10.cellEq (p := ⟨nb, acc.length, none⟩) ⟨fun h => by have : wr.heap.size ≤ nb := h.1; omega, by show nb ≠ p; omega⟩ n0
            have BX10 : Hid (w10.heap[bx]? = some (.cells #[.slice (some ⟨gb, 0, none⟩) 4 4, .slice (some ⟨lb, 0, none⟩) 3 3, .slice pA acc.length pc] 27 (0, 0))) := Lib.hid ((kp10.block bx (by show bx < w9.heap.size; omega) ⟨fun h => by have := h.1; omega, by omega⟩).trans BXW.out)
            have K10 := Lib.hid k10
            clear FX r10 k10 kp10 sh10 hfx b2 n0
            refine hK.out _ _ (fun _ => ⟨b10, n10⟩) ?_
            clear hK K hHeld
            have hHeld : w10.cell? ⟨bx, 2, none⟩ = some (.slice pA acc.length pc) ∧ w10.cell? ⟨nb, acc.length, none⟩ = some (.string nmi) := ⟨b10, n10⟩
            try simp only [Act.put, List.setIfInBounds_toArray, List.set_cons_zero, List.set_cons_succ]
            refine wpSk_take (i := 11) (v := ?hv11_7) rfl (by kernel_rfl) (fun _ _ _ h => h) (Or.inl ⟨by rfl, ?hy11_7⟩) (by assumption) ?hr11_7
            case hy11_7 => (intro wS hSw; (try dsimp only at hSw); go_simp; (try with_reducible rfl))
            try simp only [Act.put, List.setIfInBounds_toArray]
            refine wpSk_step (i := 12) (by kernel_rfl) rfl (fun K hK => ?_)
            go_simp
            have b12 : (w10.alloc (.cells #[.string nmi, .slice A9 L9.length c9] 31)).cell? ⟨bx, 2, none⟩ = some (.slice pA acc.length pc) := (World.cell?_alloc_lt _ _ _ (by show bx < _; omega)).trans b10
            have n12 : (w10.alloc (.cells #[.string nmi, .slice A9 L9.length c9] 31)).cell? ⟨nb, acc.length, none⟩ = some (.string nmi) := (World.cell?_alloc_lt _ _ _ (by show nb < _; omega)).trans n10
            refine hK.out _ _ (fun _ => ⟨b12, n12⟩) ?_
            clear hK K hHeld
            try simp only [Act.put, List.setIfInBounds_toArray, List.set_cons_zero, List.set_cons_succ]
            obtain ⟨cs, GG, hat⟩ := GR.out
            have HAT := Lib.hid hat
            have OWX := Lib.hid ((hat.keep PrG.keepP KW10.out (by intro b hb hb2 _; exact ⟨hb2, by omega⟩)).ow)
            clear hat
            refine wpSk_step (i := 13) (by kernel_rfl) rfl (fun K hK => ?_)
            refine step_appG _ prT (by rfl) _ _ (by rfl) (by rfl) (OWX.out.own.alloc _) _ 1 1 [.string nmi, .slice A9 L9.length c9] (by rfl) (Rd.new _ 2 1 _ _ rfl) (by simp [Value.oneCell']) (by omega) (by decide) ?_
            intro v13 w13 own13 gr13
            have GZ : Hid (Grew (.slice pA acc.length pc) v13 w10 w13) := Lib.hid ((Grew.of_below (Below.alloc (Below.refl _ _) (Nat.le_refl _) _)).trans gr13)
            have GX13 : Hid (GrwX PrG 31 2 w1.heap.size (fun _ => False) w13 v13 (acc ++ [(⟨nmi, lx⟩ : Pr)])) := Lib.hid (grwx_app PrG.keepP (S := fun b => b < wr.heap.size ∧ b ≠ p) HAT.out KW10.out (by intro b hb hb2 _; exact ⟨hb2, by omega⟩) rfl HPR.out (by intro b h; exact ⟨h.1, h.2, fun h => h⟩) (fun b _ h => h) own13 GZ.out)
            obtain ⟨acc', hacc⟩ : ∃ a', a' = acc ++ [(⟨nmi, lx⟩ : Pr)] := ⟨_, rfl⟩
            have HACC := Lib.hid hacc
            have hal : acc'.length = acc.length + 1 := by rw [hacc]; simp
            have HAL := Lib.hid hal
            rw [← hacc] at GX13
            clear hacc hal
            have hnb : ∀ b, b < w1.heap.size → (Value.slice pA acc.length pc).ownBlock ≠ some b := fun b hb e => by have := HAT.out.ow.lt b e; omega
            have BK13 : Hid (Keep (fun b => b < w1.heap.size) w10 w13) := Lib.hid (GZ.out.keep.mono fun b _ hb => hnb b hb)
            have b13 := BK13.out.cellEq (p := ⟨bx, 2, none⟩) (by show bx < _; omega) b10
            have n13 := BK13.out.cellEq (p := ⟨nb, acc.length, none⟩) (by show nb < _; omega) n10
            have BX13 : Hid (w13.heap[bx]? = some (.cells #[.slice (some ⟨gb, 0, none⟩) 4 4, .slice (some ⟨lb, 0, none⟩) 3 3, .slice pA acc.length pc] 27 (0, 0))) := Lib.hid ((BK13.out.block bx (by omega) (by omega)).trans BX10.out)
            have K13 : Hid (CurAt w13 p A c code k5) := Lib.hid ⟨(BK13.out.block p (lt_of_block K10.out.at') (by omega)).trans K10.out.at', K10.out.le⟩
            have hz13 : w10.heap.size ≤ w13.heap.size := BK13.out.size
            have KW13 : Hid (Keep (fun b => b < w1.heap.size ∧ b ≠ p) wr w13) := Lib.hid ((KW10.out.mono (fun b _ (h : b < w1.heap.size ∧ b ≠ p) => ⟨by have := h.1; omega, h.2⟩)).trans BK13.out (fun b _ h => h.1))
            obtain ⟨-, A13, c13, rfl, hA13, hc13⟩ : v13 = v13 ∧ ∃ A c, v13 = .slice A acc'.length c ∧ acc'.length ≤ c ∧ c ≤ maxLen := ⟨rfl, GX13.out.slice⟩
            refine hK.out _ _ (fun _ => ⟨b13, n13⟩) ?_
            clear hK K own13 gr13 b10 n10 b12 n12
            try simp only [Act.put, List.setIfInBounds_toArray]
            have hHeld : w13.cell? ⟨bx, 2, none⟩ = some (.slice pA acc.length pc) ∧ w13.cell? ⟨nb, acc.length, none⟩ = some (.string nmi) := ⟨b13, n13⟩
            refine wpSk_take (i := 14) (v := ?hv14_7) rfl (by kernel_rfl) (fun _ _ _ h => h) (Or.inl ⟨by rfl, ?hy14_7⟩) (by assumption) ?hr14_7
            case hy14_7 => (intro wS hSw; (try dsimp only at hSw); go_simp; (try with_reducible rfl))
            try simp only [Act.put]
            clear hHeld
            have f13 : w13.frozen? ⟨bx, 2, none⟩ = false := (cells3 BX13.out).2.2.2
            refine wpSk_step (i := 15) (by kernel_rfl) rfl (fun K hK => ?_)
            go_simp
            refine hK.out _ _ (fun h => absurd h (by decide)) ?_
            clear hK K
            refine wpSk_done (by kernel_rfl) ?_ _
            have HNEW : Hid (prsD code ns (N - acc'.length) acc' k5 = FIN) := Lib.hid (by
              have hq := PR.out
              have hal := HAL.out
              rw [show N - acc.length = (N - acc'.length) + 1 by omega, prsD_more HBD.out] at hq
              have hns : ns[acc.length]?.getD ByteArray.empty = nmi := by rw [HNL.out.2, List.getElem?_take, if_pos hlt, HNMI.out, List.getElem?_eq_getElem (by exact hi4)]; rfl
              rw [hns, ← HACC.out] at hq
              exact hq)
            go_wp2_with fail
            go_roundw
            case rel =>
              refine ⟨acc', k5, by have := HAL.out; omega, by rw [HAL.out]; go_num, Lib.hid ⟨_, ?_, GX13.out.keep PrG.keepP (Keep.setCell (S := fun b => b ≠ bx) (p := ⟨bx, 2, none⟩) (Keep.refl _ _) (fun h => h rfl) _) (fun b hb _ _ => by omega), K13.out.setNew (a := ⟨bx, 2, none⟩) (by show bx ≠ p; omega) _, ((KP.out.trans KW13.out (fun b hb h => ⟨h.1, h.2.1⟩)).setCell (p := ⟨bx, 2, none⟩) (fun h => h.2.2 rfl) _), HNEW.out⟩⟩
              rw [heap_setCell_same w13 bx 2 _ _ _ BX13.out]; rfl
            case measure => have := HAL.out; simp [intOf]; omega
          · have hyb : (y == 0) = false := by simp [hy]
            have HSP : Hid (spnS code ns acc.length L7 k7' = (L7, k8')) := Lib.hid (by rw [HI.out, spnS_zero_no HZ8.out hy])
            go_wp2_with fail
            -- STAGE D
            have BXW : Hid (w8.heap[bx]? = some (.cells #[.slice (some ⟨gb, 0, none⟩) 4 4, .slice (some ⟨lb, 0, none⟩) 3 3, .slice pA acc.length pc] 27 (0, 0))) := Lib.hid ((P8.out.block bx (by omega) ⟨by omega, by omega⟩).trans BX.out)
            have NBW : Hid (w8.heap[nb]? = some (.cells nmA 9 (0, 0))) := Lib.hid ((P8.out.block nb (by omega) ⟨by omega, by omega⟩).trans NBr.out)
            have RBW : Hid (Rd w8 1 A code.length (bv code)) := Lib.hid (rd_apart RR'.out CU.out (P8.out.mono (fun b hb h => ⟨hb, h⟩)))
            obtain ⟨nmi, hnmi⟩ : ∃ s, s = nmD[acc.length] := ⟨_, rfl⟩
            have HNMI := Lib.hid hnmi
            have hnsz : nmi.size ≤ maxLen := by rw [hnmi]; exact nmD_sz _ (List.getElem_mem _)
            have b2 : w8.drew.cell? ⟨bx, 2, none⟩ = some (.slice pA acc.length pc) := (cells3 BXW.out).1.2.2
            have n0 : w8.drew.cell? ⟨nb, acc.length, none⟩ = some (.string nmi) := by
              show w8.cell? _ = _
              rw [Lib.cell_of_heap NBW.out, HNMI.out]; exact nmA_get hi4
            have h1N' : (1 : Int) ≤ (N : Int) := by omega
            have DL : Hid ((ns.drop 1).length = N - 1) := Lib.hid (by rw [List.length_drop, HNL.out.1])
            have NMS : Hid (∀ s ∈ ns.drop 1, s.size ≤ maxLen) := Lib.hid (fun s hs => nmD_sz s (by have := List.mem_of_mem_drop hs; rw [HNL.out.2] at this; exact List.mem_of_mem_take this))
            have NRD : Hid (Rd w8.drew 1 (some ⟨nb, 1, none⟩) (ns.drop 1).length ((ns.drop 1).map Value.string)) := Lib.hid (by rw [HNL.out.2]; exact rd_nm NBW.out)
            clear hnmi
            refine wp_region_sk (fun w' => w'.cell? ⟨bx, 2, none⟩ = some (.slice pA acc.length pc) ∧ w'.cell? ⟨nb, acc.length, none⟩ = some (.string nmi)) 15 (by kernel_rfl) ⟨b2, n0⟩ (fun hHeld => ?_)
            refine wpSk_take (i := 0) (v := ?hv0_8) rfl (by kernel_rfl) (fun _ _ _ h => h) (Or.inl ⟨by rfl, ?hy0_8⟩) (by assumption) ?hr0_8
            case hy0_8 => (intro wS hSw; (try dsimp only at hSw); go_simp; (try with_reducible rfl))
            try simp only [Act.put, List.setIfInBounds_toArray]
            refine wpSk_take (i := 1) (v := ?hv1_8) rfl (by kernel_rfl) (fun _ _ _ h => h) (Or.inl ⟨by rfl, ?hy1_8⟩) (by assumption) ?hr1_8
            case hy1_8 => (intro wS hSw; (try dsimp only at hSw); go_simp; (try with_reducible rfl))
            try simp only [Act.put]
            refine wpSk_take (i := 2) (v := ?hv2_8) rfl (by kernel_rfl) (fun _ _ _ h => h) (Or.inl ⟨by rfl, ?hy2_8⟩) (by assumption) ?hr2_8
            case hy2_8 => (intro wS hSw; (try dsimp only at hSw); go_simp; (try with_reducible rfl))
            try simp only [Act.put]
            refine wpSk_take (i := 3) (v := ?hv3_8) rfl (by kernel_rfl) (fun _ _ _ h => h) (Or.inl ⟨by rfl, ?hy3_8⟩) (by assumption) ?hr3_8
            case hy3_8 => (intro wS hSw; (try dsimp only at hSw); go_simp; (try with_reducible rfl))
            try simp only [Act.put]
            refine wpSk_take (i := 4) (v := ?hv4_8) rfl (by kernel_rfl) (fun _ _ _ h => h) (Or.inl ⟨by rfl, ?hy4_8⟩) (by assumption) ?hr4_8
            case hy4_8 => (intro wS hSw; (try dsimp only at hSw); go_simp; (try with_reducible rfl))
            try simp only [Act.put]
            refine wpSk_take (i := 5) (v := ?hv5_8) rfl (by kernel_rfl) (fun _ _ _ h => h) (Or.inl ⟨by rfl, ?hy5_8⟩) (by assumption) ?hr5_8
            case hy5_8 => (intro wS hSw; (try dsimp only at hSw); go_simp; (try with_reducible rfl))
            try simp only [Act.put]
            refine wpSk_take (i := 6) (v := ?hv6_8) rfl (by kernel_rfl) (fun _ _ _ h => h) (Or.inl ⟨by rfl, ?hy6_8⟩) (by assumption) ?hr6_8
            case hy6_8 => (intro wS hSw; (try dsimp only at hSw); go_simp; (try with_reducible rfl))
            try simp only [Act.put]
            refine wpSk_take (i := 7) (v := ?hv7_8) rfl (by kernel_rfl) (fun _ _ _ h => h) (Or.inl ⟨by rfl, ?hy7_8⟩) (by assumption) ?hr7_8
            case hy7_8 => (intro wS hSw; (try dsimp only at hSw); go_simp; (try with_reducible rfl))
            try simp only [Act.put]
            refine wpSk_take (i := 8) (v := ?hv8_8) rfl (by kernel_rfl) (fun _ _ _ h => h) (Or.inl ⟨by rfl, ?hy8_8⟩) (by assumption) ?hr8_8
            case hy8_8 => (intro wS hSw; (try dsimp only at hSw); go_simp; (try with_reducible rfl))
            try simp only [Act.put]
            refine wpSk_take (i := 9) (v := ?hv9_8) rfl (by kernel_rfl) (fun _ _ _ h => h) (Or.inl ⟨by rfl, ?hy9_8⟩) (by assumption) ?hr9_8
            case hy9_8 => (intro wS hSw; (try dsimp only at hSw); go_simp; (try with_reducible rfl))
            try simp only [Act.put]
            have hN2 : 0 < N - 1 := by omega
            have HLC := Lib.hid (grwO_cap G8.out)
            refine wpSk_step (i := 10) (by kernel_rfl) rfl (fun K hK => ?_)
            go_simp
            have FX := spec_l05Fix L7 (ns.drop 1) nb 1 3 p A c code k8' (fun b => wr.heap.size ≤ b ∧ b < w8.heap.size) A7 c7 w8.drew (by rw [DL.out]; omega) (by rw [DL.out]; omega) NMS.out NRD.out (fun h => by have := h.1; omega) (by omega) RBW.out (fun b off e hn h => by have := rd_lt RD.out e hn; have := h.1; omega) hl hc ⟨K8.out.at', K8.out.le⟩ (fun h => by have := h.1; omega) (G8.out.rowB.keep fun _ _ => rfl) (fun b h => h.2) HLC.out.1 HLC.out.2
            rw [DL.out] at FX
            refine FX.mono ?_
            rintro e w10 ⟨rfl, r10, k10, kp10, sh10⟩
            have hfl := fixGs_len code (ns.drop 1) L7 k8'
            generalize hfx : fixGs code (ns.drop 1) L7 k8' = rx at *
            obtain ⟨lx, k5⟩ := rx
            simp only at r10 k10 hfl
            have HBD := Lib.hid (bdyD_of HTW.out HRAW.out HGR.out HSP.out hfx)
            have hz10 : w8.heap.size ≤ w10.heap.size := kp10.size
            have hzW : wr.heap.size ≤ w8.heap.size := P8.out.size
            have HPR : Hid (PrG w10 (fun b => wr.heap.size ≤ b ∧ b < w10.heap.size) [.string nmi, .slice A7 L7.length c7] ⟨nmi, lx⟩) := Lib.hid ⟨⟨nmi, A7, L7.length, c7⟩, rfl, ⟨rfl, hfl.symm, hnsz, by rw [show (⟨nmi, lx⟩ : Pr).body = lx from rfl, hfl]; exact HLC.out.1, HLC.out.2, r10.sub (fun b h => ⟨h.1, by have := h.2; omega⟩)⟩, (G8.out.cap.shp sh10).sub (fun b h => ⟨h.1, by have := h.2; omega⟩)⟩
            have KW10 : Hid (Keep (fun b => b < wr.heap.size ∧ b ≠ p) wr w10) := Lib.hid (P8.out.trans (⟨kp10.os, kp10.tape, kp10.output, kp10.size, kp10.block⟩ : Keep _ w8 w10) (fun b hb h => ⟨fun hf => by have := hf.1; omega, h.2⟩))
            have b10 := kp10.cellEq (p := ⟨bx, 2, none⟩) ⟨fun h => by have : wr.heap.size ≤ bx := h.1; omega, by show bx ≠ p; omega⟩ b2
            have n10 := kp10.cellEq (p := ⟨nb, acc.length, none⟩) ⟨fun h => by have : wr.heap.size ≤ nb := h.1; omega, by show nb ≠ p; omega⟩ n0
            have BX10 : Hid (w10.heap[bx]? = some (.cells #[.slice (some ⟨gb, 0, none⟩) 4 4, .slice (some ⟨lb, 0, none⟩) 3 3, .slice pA acc.length pc] 27 (0, 0))) := Lib.hid ((kp10.block bx (by show bx < w8.heap.size; omega) ⟨fun h => by have := h.1; omega, by omega⟩).trans BXW.out)
            have K10 := Lib.hid k10
            clear FX r10 k10 kp10 sh10 hfx b2 n0
            refine hK.out _ _ (fun _ => ⟨b10, n10⟩) ?_
            clear hK K hHeld
            have hHeld : w10.cell? ⟨bx, 2, none⟩ = some (.slice pA acc.length pc) ∧ w10.cell? ⟨nb, acc.length, none⟩ = some (.string nmi) := ⟨b10, n10⟩
            try simp only [Act.put, List.setIfInBounds_toArray, List.set_cons_zero, List.set_cons_succ]
            refine wpSk_take (i := 11) (v := ?hv11_8) rfl (by kernel_rfl) (fun _ _ _ h => h) (Or.inl ⟨by rfl, ?hy11_8⟩) (by assumption) ?hr11_8
            case hy11_8 => (intro wS hSw; (try dsimp only at hSw); go_simp; (try with_reducible rfl))
            try simp only [Act.put, List.setIfInBounds_toArray]
            refine wpSk_step (i := 12) (by kernel_rfl) rfl (fun K hK => ?_)
            go_simp
            have b12 : (w10.alloc (.cells #[.string nmi, .slice A7 L7.length c7] 31)).cell? ⟨bx, 2, none⟩ = some (.slice pA acc.length pc) := (World.cell?_alloc_lt _ _ _ (by show bx < _; omega)).trans b10
            have n12 : (w10.alloc (.cells #[.string nmi, .slice A7 L7.length c7] 31)).cell? ⟨nb, acc.length, none⟩ = some (.string nmi) := (World.cell?_alloc_lt _ _ _ (by show nb < _; omega)).trans n10
            refine hK.out _ _ (fun _ => ⟨b12, n12⟩) ?_
            clear hK K hHeld
            try simp only [Act.put, List.setIfInBounds_toArray, List.set_cons_zero, List.set_cons_succ]
            obtain ⟨cs, GG, hat⟩ := GR.out
            have HAT := Lib.hid hat
            have OWX := Lib.hid ((hat.keep PrG.keepP KW10.out (by intro b hb hb2 _; exact ⟨hb2, by omega⟩)).ow)
            clear hat
            refine wpSk_step (i := 13) (by kernel_rfl) rfl (fun K hK => ?_)
            refine step_appG _ prT (by rfl) _ _ (by rfl) (by rfl) (OWX.out.own.alloc _) _ 1 1 [.string nmi, .slice A7 L7.length c7] (by rfl) (Rd.new _ 2 1 _ _ rfl) (by simp [Value.oneCell']) (by omega) (by decide) ?_
            intro v13 w13 own13 gr13
            have GZ : Hid (Grew (.slice pA acc.length pc) v13 w10 w13) := Lib.hid ((Grew.of_below (Below.alloc (Below.refl _ _) (Nat.le_refl _) _)).trans gr13)
            have GX13 : Hid (GrwX PrG 31 2 w1.heap.size (fun _ => False) w13 v13 (acc ++ [(⟨nmi, lx⟩ : Pr)])) := Lib.hid (grwx_app PrG.keepP (S := fun b => b < wr.heap.size ∧ b ≠ p) HAT.out KW10.out (by intro b hb hb2 _; exact ⟨hb2, by omega⟩) rfl HPR.out (by intro b h; exact ⟨h.1, h.2, fun h => h⟩) (fun b _ h => h) own13 GZ.out)
            obtain ⟨acc', hacc⟩ : ∃ a', a' = acc ++ [(⟨nmi, lx⟩ : Pr)] := ⟨_, rfl⟩
            have HACC := Lib.hid hacc
            have hal : acc'.length = acc.length + 1 := by rw [hacc]; simp
            have HAL := Lib.hid hal
            rw [← hacc] at GX13
            clear hacc hal
            have hnb : ∀ b, b < w1.heap.size → (Value.slice pA acc.length pc).ownBlock ≠ some b := fun b hb e => by have := HAT.out.ow.lt b e; omega
            have BK13 : Hid (Keep (fun b => b < w1.heap.size) w10 w13) := Lib.hid (GZ.out.keep.mono fun b _ hb => hnb b hb)
            have b13 := BK13.out.cellEq (p := ⟨bx, 2, none⟩) (by show bx < _; omega) b10
            have n13 := BK13.out.cellEq (p := ⟨nb, acc.length, none⟩) (by show nb < _; omega) n10
            have BX13 : Hid (w13.heap[bx]? = some (.cells #[.slice (some ⟨gb, 0, none⟩) 4 4, .slice (some ⟨lb, 0, none⟩) 3 3, .slice pA acc.length pc] 27 (0, 0))) := Lib.hid ((BK13.out.block bx (by omega) (by omega)).trans BX10.out)
            have K13 : Hid (CurAt w13 p A c code k5) := Lib.hid ⟨(BK13.out.block p (lt_of_block K10.out.at') (by omega)).trans K10.out.at', K10.out.le⟩
            have hz13 : w10.heap.size ≤ w13.heap.size := BK13.out.size
            have KW13 : Hid (Keep (fun b => b < w1.heap.size ∧ b ≠ p) wr w13) := Lib.hid ((KW10.out.mono (fun b _ (h : b < w1.heap.size ∧ b ≠ p) => ⟨by have := h.1; omega, h.2⟩)).trans BK13.out (fun b _ h => h.1))
            obtain ⟨-, A13, c13, rfl, hA13, hc13⟩ : v13 = v13 ∧ ∃ A c, v13 = .slice A acc'.length c ∧ acc'.length ≤ c ∧ c ≤ maxLen := ⟨rfl, GX13.out.slice⟩
            refine hK.out _ _ (fun _ => ⟨b13, n13⟩) ?_
            clear hK K own13 gr13 b10 n10 b12 n12
            try simp only [Act.put, List.setIfInBounds_toArray]
            have hHeld : w13.cell? ⟨bx, 2, none⟩ = some (.slice pA acc.length pc) ∧ w13.cell? ⟨nb, acc.length, none⟩ = some (.string nmi) := ⟨b13, n13⟩
            refine wpSk_take (i := 14) (v := ?hv14_8) rfl (by kernel_rfl) (fun _ _ _ h => h) (Or.inl ⟨by rfl, ?hy14_8⟩) (by assumption) ?hr14_8
            case hy14_8 => (intro wS hSw; (try dsimp only at hSw); go_simp; (try with_reducible rfl))
            try simp only [Act.put]
            clear hHeld
            have f13 : w13.frozen? ⟨bx, 2, none⟩ = false := (cells3 BX13.out).2.2.2
            refine wpSk_step (i := 15) (by kernel_rfl) rfl (fun K hK => ?_)
            go_simp
            refine hK.out _ _ (fun h => absurd h (by decide)) ?_
            clear hK K
            refine wpSk_done (by kernel_rfl) ?_ _
            have HNEW : Hid (prsD code ns (N - acc'.length) acc' k5 = FIN) := Lib.hid (by
              have hq := PR.out
              have hal := HAL.out
              rw [show N - acc.length = (N - acc'.length) + 1 by omega, prsD_more HBD.out] at hq
              have hns : ns[acc.length]?.getD ByteArray.empty = nmi := by rw [HNL.out.2, List.getElem?_take, if_pos hlt, HNMI.out, List.getElem?_eq_getElem (by exact hi4)]; rfl
              rw [hns, ← HACC.out] at hq
              exact hq)
            go_wp2_with fail
            go_roundw
            case rel =>
              refine ⟨acc', k5, by have := HAL.out; omega, by rw [HAL.out]; go_num, Lib.hid ⟨_, ?_, GX13.out.keep PrG.keepP (Keep.setCell (S := fun b => b ≠ bx) (p := ⟨bx, 2, none⟩) (Keep.refl _ _) (fun h => h rfl) _) (fun b hb _ _ => by omega), K13.out.setNew (a := ⟨bx, 2, none⟩) (by show bx ≠ p; omega) _, ((KP.out.trans KW13.out (fun b hb h => ⟨h.1, h.2.1⟩)).setCell (p := ⟨bx, 2, none⟩) (fun h => h.2.2 rfl) _), HNEW.out⟩⟩
              rw [heap_setCell_same w13 bx 2 _ _ _ BX13.out]; rfl
            case measure => have := HAL.out; simp [intOf]; omega
        · have hib : ((acc.length : Int) == 0) = false := beq_eq_false_iff_ne.2 (by omega)
          have HSP := Lib.hid (spnS_more (code := code) (ns := ns) (l := L7) (k := k7') hi)
          go_wp2_with fail
          -- STAGE D
          have BXW : Hid (w7.heap[bx]? = some (.cells #[.slice (some ⟨gb, 0, none⟩) 4 4, .slice (some ⟨lb, 0, none⟩) 3 3, .slice pA acc.length pc] 27 (0, 0))) := Lib.hid ((P7.out.block bx (by omega) ⟨by omega, by omega⟩).trans BX.out)
          have NBW : Hid (w7.heap[nb]? = some (.cells nmA 9 (0, 0))) := Lib.hid ((P7.out.block nb (by omega) ⟨by omega, by omega⟩).trans NBr.out)
          have RBW : Hid (Rd w7 1 A code.length (bv code)) := Lib.hid (rd_apart RR'.out CU.out (P7.out.mono (fun b hb h => ⟨hb, h⟩)))
          obtain ⟨nmi, hnmi⟩ : ∃ s, s = nmD[acc.length] := ⟨_, rfl⟩
          have HNMI := Lib.hid hnmi
          have hnsz : nmi.size ≤ maxLen := by rw [hnmi]; exact nmD_sz _ (List.getElem_mem _)
          have b2 : w7.drew.cell? ⟨bx, 2, none⟩ = some (.slice pA acc.length pc) := (cells3 BXW.out).1.2.2
          have n0 : w7.drew.cell? ⟨nb, acc.length, none⟩ = some (.string nmi) := by
            show w7.cell? _ = _
            rw [Lib.cell_of_heap NBW.out, HNMI.out]; exact nmA_get hi4
          have h1N' : (1 : Int) ≤ (N : Int) := by omega
          have DL : Hid ((ns.drop 1).length = N - 1) := Lib.hid (by rw [List.length_drop, HNL.out.1])
          have NMS : Hid (∀ s ∈ ns.drop 1, s.size ≤ maxLen) := Lib.hid (fun s hs => nmD_sz s (by have := List.mem_of_mem_drop hs; rw [HNL.out.2] at this; exact List.mem_of_mem_take this))
          have NRD : Hid (Rd w7.drew 1 (some ⟨nb, 1, none⟩) (ns.drop 1).length ((ns.drop 1).map Value.string)) := Lib.hid (by rw [HNL.out.2]; exact rd_nm NBW.out)
          clear hnmi
          refine wp_region_sk (fun w' => w'.cell? ⟨bx, 2, none⟩ = some (.slice pA acc.length pc) ∧ w'.cell? ⟨nb, acc.length, none⟩ = some (.string nmi)) 15 (by kernel_rfl) ⟨b2, n0⟩ (fun hHeld => ?_)
          refine wpSk_take (i := 0) (v := ?hv0_9) rfl (by kernel_rfl) (fun _ _ _ h => h) (Or.inl ⟨by rfl, ?hy0_9⟩) (by assumption) ?hr0_9
          case hy0_9 => (intro wS hSw; (try dsimp only at hSw); go_simp; (try with_reducible rfl))
          try simp only [Act.put, List.setIfInBounds_toArray]
          refine wpSk_take (i := 1) (v := ?hv1_9) rfl (by kernel_rfl) (fun _ _ _ h => h) (Or.inl ⟨by rfl, ?hy1_9⟩) (by assumption) ?hr1_9
          case hy1_9 => (intro wS hSw; (try dsimp only at hSw); go_simp; (try with_reducible rfl))
          try simp only [Act.put]
          refine wpSk_take (i := 2) (v := ?hv2_9) rfl (by kernel_rfl) (fun _ _ _ h => h) (Or.inl ⟨by rfl, ?hy2_9⟩) (by assumption) ?hr2_9
          case hy2_9 => (intro wS hSw; (try dsimp only at hSw); go_simp; (try with_reducible rfl))
          try simp only [Act.put]
          refine wpSk_take (i := 3) (v := ?hv3_9) rfl (by kernel_rfl) (fun _ _ _ h => h) (Or.inl ⟨by rfl, ?hy3_9⟩) (by assumption) ?hr3_9
          case hy3_9 => (intro wS hSw; (try dsimp only at hSw); go_simp; (try with_reducible rfl))
          try simp only [Act.put]
          refine wpSk_take (i := 4) (v := ?hv4_9) rfl (by kernel_rfl) (fun _ _ _ h => h) (Or.inl ⟨by rfl, ?hy4_9⟩) (by assumption) ?hr4_9
          case hy4_9 => (intro wS hSw; (try dsimp only at hSw); go_simp; (try with_reducible rfl))
          try simp only [Act.put]
          refine wpSk_take (i := 5) (v := ?hv5_9) rfl (by kernel_rfl) (fun _ _ _ h => h) (Or.inl ⟨by rfl, ?hy5_9⟩) (by assumption) ?hr5_9
          case hy5_9 => (intro wS hSw; (try dsimp only at hSw); go_simp; (try with_reducible rfl))
          try simp only [Act.put]
          refine wpSk_take (i := 6) (v := ?hv6_9) rfl (by kernel_rfl) (fun _ _ _ h => h) (Or.inl ⟨by rfl, ?hy6_9⟩) (by assumption) ?hr6_9
          case hy6_9 => (intro wS hSw; (try dsimp only at hSw); go_simp; (try with_reducible rfl))
          try simp only [Act.put]
          refine wpSk_take (i := 7) (v := ?hv7_9) rfl (by kernel_rfl) (fun _ _ _ h => h) (Or.inl ⟨by rfl, ?hy7_9⟩) (by assumption) ?hr7_9
          case hy7_9 => (intro wS hSw; (try dsimp only at hSw); go_simp; (try with_reducible rfl))
          try simp only [Act.put]
          refine wpSk_take (i := 8) (v := ?hv8_9) rfl (by kernel_rfl) (fun _ _ _ h => h) (Or.inl ⟨by rfl, ?hy8_9⟩) (by assumption) ?hr8_9
          case hy8_9 => (intro wS hSw; (try dsimp only at hSw); go_simp; (try with_reducible rfl))
          try simp only [Act.put]
          refine wpSk_take (i := 9) (v := ?hv9_9) rfl (by kernel_rfl) (fun _ _ _ h => h) (Or.inl ⟨by rfl, ?hy9_9⟩) (by assumption) ?hr9_9
          case hy9_9 => (intro wS hSw; (try dsimp only at hSw); go_simp; (try with_reducible rfl))
          try simp only [Act.put]
          have hN2 : 0 < N - 1 := by omega
          have HLC := Lib.hid (grwO_cap G7.out)
          refine wpSk_step (i := 10) (by kernel_rfl) rfl (fun K hK => ?_)
          go_simp
          have FX := spec_l05Fix L7 (ns.drop 1) nb 1 3 p A c code k7' (fun b => wr.heap.size ≤ b ∧ b < w7.heap.size) A7 c7 w7.drew (by rw [DL.out]; omega) (by rw [DL.out]; omega) NMS.out NRD.out (fun h => by have := h.1; omega) (by omega) RBW.out (fun b off e hn h => by have := rd_lt RD.out e hn; have := h.1; omega) hl hc ⟨K7.out.at', K7.out.le⟩ (fun h => by have := h.1; omega) (G7.out.rowB.keep fun _ _ => rfl) (fun b h => h.2) HLC.out.1 HLC.out.2
          rw [DL.out] at FX
          refine FX.mono ?_
          rintro e w10 ⟨rfl, r10, k10, kp10, sh10⟩
          have hfl := fixGs_len code (ns.drop 1) L7 k7'
          generalize hfx : fixGs code (ns.drop 1) L7 k7' = rx at *
          obtain ⟨lx, k5⟩ := rx
          simp only at r10 k10 hfl
          have HBD := Lib.hid (bdyD_of HTW.out HRAW.out HGR.out HSP.out hfx)
          have hz10 : w7.heap.size ≤ w10.heap.size := kp10.size
          have hzW : wr.heap.size ≤ w7.heap.size := P7.out.size
          have HPR : Hid (PrG w10 (fun b => wr.heap.size ≤ b ∧ b < w10.heap.size) [.string nmi, .slice A7 L7.length c7] ⟨nmi, lx⟩) := Lib.hid ⟨⟨nmi, A7, L7.length, c7⟩, rfl, ⟨rfl, hfl.symm, hnsz, by rw [show (⟨nmi, lx⟩ : Pr).body = lx from rfl, hfl]; exact HLC.out.1, HLC.out.2, r10.sub (fun b h => ⟨h.1, by have := h.2; omega⟩)⟩, (G7.out.cap.shp sh10).sub (fun b h => ⟨h.1, by have := h.2; omega⟩)⟩
          have KW10 : Hid (Keep (fun b => b < wr.heap.size ∧ b ≠ p) wr w10) := Lib.hid (P7.out.trans (⟨kp10.os, kp10.tape, kp10.output, kp10.size, kp10.block⟩ : Keep _ w7 w10) (fun b hb h => ⟨fun hf => by have := hf.1; omega, h.2⟩))
          have b10 := kp10.cellEq (p := ⟨bx, 2, none⟩) ⟨fun h => by have : wr.heap.size ≤ bx := h.1; omega, by show bx ≠ p; omega⟩ b2
          have n10 := kp10.cellEq (p := ⟨nb, acc.length, none⟩) ⟨fun h => by have : wr.heap.size ≤ nb := h.1; omega, by show nb ≠ p; omega⟩ n0
          have BX10 : Hid (w10.heap[bx]? = some (.cells #[.slice (some ⟨gb, 0, none⟩) 4 4, .slice (some ⟨lb, 0, none⟩) 3 3, .slice pA acc.length pc] 27 (0, 0))) := Lib.hid ((kp10.block bx (by show bx < w7.heap.size; omega) ⟨fun h => by have := h.1; omega, by omega⟩).trans BXW.out)
          have K10 := Lib.hid k10
          clear FX r10 k10 kp10 sh10 hfx b2 n0
          refine hK.out _ _ (fun _ => ⟨b10, n10⟩) ?_
          clear hK K hHeld
          have hHeld : w10.cell? ⟨bx, 2, none⟩ = some (.slice pA acc.length pc) ∧ w10.cell? ⟨nb, acc.length, none⟩ = some (.string nmi) := ⟨b10, n10⟩
          try simp only [Act.put, List.setIfInBounds_toArray, List.set_cons_zero, List.set_cons_succ]
          refine wpSk_take (i := 11) (v := ?hv11_9) rfl (by kernel_rfl) (fun _ _ _ h => h) (Or.inl ⟨by rfl, ?hy11_9⟩) (by assumption) ?hr11_9
          case hy11_9 => (intro wS hSw; (try dsimp only at hSw); go_simp; (try with_reducible rfl))
          try simp only [Act.put, List.setIfInBounds_toArray]
          refine wpSk_step (i := 12) (by kernel_rfl) rfl (fun K hK => ?_)
          go_simp
          have b12 : (w10.alloc (.cells #[.string nmi, .slice A7 L7.length c7] 31)).cell? ⟨bx, 2, none⟩ = some (.slice pA acc.length pc) := (World.cell?_alloc_lt _ _ _ (by show bx < _; omega)).trans b10
          have n12 : (w10.alloc (.cells #[.string nmi, .slice A7 L7.length c7] 31)).cell? ⟨nb, acc.length, none⟩ = some (.string nmi) := (World.cell?_alloc_lt _ _ _ (by show nb < _; omega)).trans n10
          refine hK.out _ _ (fun _ => ⟨b12, n12⟩) ?_
          clear hK K hHeld
          try simp only [Act.put, List.setIfInBounds_toArray, List.set_cons_zero, List.set_cons_succ]
          obtain ⟨cs, GG, hat⟩ := GR.out
          have HAT := Lib.hid hat
          have OWX := Lib.hid ((hat.keep PrG.keepP KW10.out (by intro b hb hb2 _; exact ⟨hb2, by omega⟩)).ow)
          clear hat
          refine wpSk_step (i := 13) (by kernel_rfl) rfl (fun K hK => ?_)
          refine step_appG _ prT (by rfl) _ _ (by rfl) (by rfl) (OWX.out.own.alloc _) _ 1 1 [.string nmi, .slice A7 L7.length c7] (by rfl) (Rd.new _ 2 1 _ _ rfl) (by simp [Value.oneCell']) (by omega) (by decide) ?_
          intro v13 w13 own13 gr13
          have GZ : Hid (Grew (.slice pA acc.length pc) v13 w10 w13) := Lib.hid ((Grew.of_below (Below.alloc (Below.refl _ _) (Nat.le_refl _) _)).trans gr13)
          have GX13 : Hid (GrwX PrG 31 2 w1.heap.size (fun _ => False) w13 v13 (acc ++ [(⟨nmi, lx⟩ : Pr)])) := Lib.hid (grwx_app PrG.keepP (S := fun b => b < wr.heap.size ∧ b ≠ p) HAT.out KW10.out (by intro b hb hb2 _; exact ⟨hb2, by omega⟩) rfl HPR.out (by intro b h; exact ⟨h.1, h.2, fun h => h⟩) (fun b _ h => h) own13 GZ.out)
          obtain ⟨acc', hacc⟩ : ∃ a', a' = acc ++ [(⟨nmi, lx⟩ : Pr)] := ⟨_, rfl⟩
          have HACC := Lib.hid hacc
          have hal : acc'.length = acc.length + 1 := by rw [hacc]; simp
          have HAL := Lib.hid hal
          rw [← hacc] at GX13
          clear hacc hal
          have hnb : ∀ b, b < w1.heap.size → (Value.slice pA acc.length pc).ownBlock ≠ some b := fun b hb e => by have := HAT.out.ow.lt b e; omega
          have BK13 : Hid (Keep (fun b => b < w1.heap.size) w10 w13) := Lib.hid (GZ.out.keep.mono fun b _ hb => hnb b hb)
          have b13 := BK13.out.cellEq (p := ⟨bx, 2, none⟩) (by show bx < _; omega) b10
          have n13 := BK13.out.cellEq (p := ⟨nb, acc.length, none⟩) (by show nb < _; omega) n10
          have BX13 : Hid (w13.heap[bx]? = some (.cells #[.slice (some ⟨gb, 0, none⟩) 4 4, .slice (some ⟨lb, 0, none⟩) 3 3, .slice pA acc.length pc] 27 (0, 0))) := Lib.hid ((BK13.out.block bx (by omega) (by omega)).trans BX10.out)
          have K13 : Hid (CurAt w13 p A c code k5) := Lib.hid ⟨(BK13.out.block p (lt_of_block K10.out.at') (by omega)).trans K10.out.at', K10.out.le⟩
          have hz13 : w10.heap.size ≤ w13.heap.size := BK13.out.size
          have KW13 : Hid (Keep (fun b => b < w1.heap.size ∧ b ≠ p) wr w13) := Lib.hid ((KW10.out.mono (fun b _ (h : b < w1.heap.size ∧ b ≠ p) => ⟨by have := h.1; omega, h.2⟩)).trans BK13.out (fun b _ h => h.1))
          obtain ⟨-, A13, c13, rfl, hA13, hc13⟩ : v13 = v13 ∧ ∃ A c, v13 = .slice A acc'.length c ∧ acc'.length ≤ c ∧ c ≤ maxLen := ⟨rfl, GX13.out.slice⟩
          refine hK.out _ _ (fun _ => ⟨b13, n13⟩) ?_
          clear hK K own13 gr13 b10 n10 b12 n12
          try simp only [Act.put, List.setIfInBounds_toArray]
          have hHeld : w13.cell? ⟨bx, 2, none⟩ = some (.slice pA acc.length pc) ∧ w13.cell? ⟨nb, acc.length, none⟩ = some (.string nmi) := ⟨b13, n13⟩
          refine wpSk_take (i := 14) (v := ?hv14_9) rfl (by kernel_rfl) (fun _ _ _ h => h) (Or.inl ⟨by rfl, ?hy14_9⟩) (by assumption) ?hr14_9
          case hy14_9 => (intro wS hSw; (try dsimp only at hSw); go_simp; (try with_reducible rfl))
          try simp only [Act.put]
          clear hHeld
          have f13 : w13.frozen? ⟨bx, 2, none⟩ = false := (cells3 BX13.out).2.2.2
          refine wpSk_step (i := 15) (by kernel_rfl) rfl (fun K hK => ?_)
          go_simp
          refine hK.out _ _ (fun h => absurd h (by decide)) ?_
          clear hK K
          refine wpSk_done (by kernel_rfl) ?_ _
          have HNEW : Hid (prsD code ns (N - acc'.length) acc' k5 = FIN) := Lib.hid (by
            have hq := PR.out
            have hal := HAL.out
            rw [show N - acc.length = (N - acc'.length) + 1 by omega, prsD_more HBD.out] at hq
            have hns : ns[acc.length]?.getD ByteArray.empty = nmi := by rw [HNL.out.2, List.getElem?_take, if_pos hlt, HNMI.out, List.getElem?_eq_getElem (by exact hi4)]; rfl
            rw [hns, ← HACC.out] at hq
            exact hq)
          go_wp2_with fail
          go_roundw
          case rel =>
            refine ⟨acc', k5, by have := HAL.out; omega, by rw [HAL.out]; go_num, Lib.hid ⟨_, ?_, GX13.out.keep PrG.keepP (Keep.setCell (S := fun b => b ≠ bx) (p := ⟨bx, 2, none⟩) (Keep.refl _ _) (fun h => h rfl) _) (fun b hb _ _ => by omega), K13.out.setNew (a := ⟨bx, 2, none⟩) (by show bx ≠ p; omega) _, ((KP.out.trans KW13.out (fun b hb h => ⟨h.1, h.2.1⟩)).setCell (p := ⟨bx, 2, none⟩) (fun h => h.2.2 rfl) _), HNEW.out⟩⟩
            rw [heap_setCell_same w13 bx 2 _ _ _ BX13.out]; rfl
          case measure => have := HAL.out; simp [intOf]; omega
      · have hzb : (z == 0) = false := by simp [hz]
        have HGR := Lib.hid (grdS_no (l := [skipS]) HZ6.out hz)
        have ha7 := hlLS
        -- STAGE C
        by_cases hi : acc.length = 0
        · have hib : ((acc.length : Int) == 0) = true := by simp [hi]
          have RBc : Hid (Rd w6 1 A code.length (bv code)) := Lib.hid (rd_apart RR'.out CU.out (P6.out.mono (fun b hb h => ⟨hb, h⟩)))
          have HI := Lib.hid hi
          clear hi
          go_wp2_with fail
          refine (spec_l01Once 2 p A c code k6' _ RBc.out hl hc K6.out (by omega)).mono ?_
          rintro e w8 ⟨rfl, k8, kp8⟩
          have K8 := Lib.hid k8
          have P8 : Hid (Keep (fun b => b < wr.heap.size ∧ b ≠ p) wr w8) := Lib.hid (P6.out.trans kp8 (fun _ _ h => h.2))
          have G8 := Lib.hid (G6.out.keep kp8 (fun b hb _ => by omega))
          have hz8 : wr.heap.size ≤ w8.heap.size := P8.out.size
          generalize hb8 : belowD code 2 k6' = z8 at *
          obtain ⟨y, k8'⟩ := z8
          have HZ8 := Lib.hid hb8
          clear k8 kp8 hb8 RBc K6 P6 G6
          simp only at K8
          by_cases hy : y = 0
          · have hyb : (y == 0) = true := by simp [hy]
            have HY0 := Lib.hid hy
            clear hy
            have NB8 : Hid (w8.heap[nb]? = some (.cells nmA 9 (0, 0))) := Lib.hid ((P8.out.block nb (by omega) ⟨by omega, by omega⟩).trans NBr.out)
            have n1 : w8.cell? ⟨nb, 1, none⟩ = some (.string ⟨#[112]⟩) := by rw [Lib.cell_of_heap NB8.out]; rfl
            have HNS1 : Hid (ns[1]?.getD ByteArray.empty = ⟨#[112]⟩) := Lib.hid (by rw [HNL.out.2, List.getElem?_take, if_pos (by omega)]; rfl)
            have h1N : (1 : Int) < (N : Int) := by omega
            obtain ⟨ys, GY, hyl, ry, hy⟩ := stRowO_to G8.out.rowB
            have GP : Hid (GrwO w8.heap.size (w8.alloc (.cells #[.int .i64 5, .string ⟨#[112]⟩, .int .i64 0, .int .i64 0, .string ⟨#[]⟩, .slice none 0 0, .slice none 0 0, .slice none 0 0] 36)) (.slice (some ⟨w8.heap.size, 0, none⟩) 1 1) [spawnS ⟨#[112]⟩]) := Lib.hid (grwO_lit ⟨5, ⟨#[112]⟩, 0, 0, ⟨#[]⟩, none, 0, 0, none, 0, 0, none, 0, 0⟩ (spawnS ⟨#[112]⟩) w8 (fun w' => flatO 5 ⟨#[112]⟩ (by unfold i64in; omega) (by simp [maxLen]; decide) w'))
            have RY := Lib.hid (ry.keep (w' := w8.alloc (.cells #[.int .i64 5, .string ⟨#[112]⟩, .int .i64 0, .int .i64 0, .string ⟨#[]⟩, .slice none 0 0, .slice none 0 0, .slice none 0 0] 36)) (fun b hb => heap_alloc_lt hb.2))
            have HY : Hid (∀ i (h : i < [skipS].length) (h' : i < ys.length), StO (w8.alloc (.cells #[.int .i64 5, .string ⟨#[112]⟩, .int .i64 0, .int .i64 0, .string ⟨#[]⟩, .slice none 0 0, .slice none 0 0, .slice none 0 0] 36)) (GY i) ys[i] [skipS][i]) := Lib.hid (fun i hi hi' => (hy i hi hi').keep fun b hb => heap_alloc_lt (ry.2.2.1 i b hi hb).2)
            have HYL := Lib.hid hyl
            have YRD := Lib.hid RY.out.1
            clear ry hy hyl
            obtain ⟨LP, hLP⟩ : ∃ L', L' = [spawnS ⟨#[112]⟩] := ⟨_, rfl⟩
            have hlLP : LP.length ≤ 1 := by rw [hLP]; simp
            have HLP := Lib.hid hLP
            rw [← hLP] at GP
            clear hLP
            obtain ⟨xs8, G8, hxl8, ow8, hG8, hd8, hx8⟩ := GP.out
            have OW8 := Lib.hid ow8.own
            have OX8 := Lib.hid ow8
            have HX8 := Lib.hid (And.intro hxl8 (And.intro hG8 (And.intro hd8 hx8)))
            clear ow8 hxl8 hG8 hd8 hx8
            go_wp2_with (at_builtin; first | (refine wpList_appG rfl _ _ _ rfl sgT rfl OW8.out (some ⟨w5.heap.size, 0, none⟩) [skipS].length 1 (ys.flatMap V8.cells) rfl YRD.out (v8_one ys) (by simp only [maxLen]; omega) (by omega) ?_; intro v9 w9 own9 gr9; have GN9 : Hid (GrwO wr.heap.size w9 v9 (LP ++ [skipS])) := Lib.hid (grw_cat (S := fun _ => True) HX8.out.1 OX8.out HX8.out.2.1 HX8.out.2.2.1 HX8.out.2.2.2 hz8 (Keep.refl _ _) (fun _ _ _ => trivial) HYL.out RY.out HY.out (fun b hb => ⟨hb.1, by have := hb.2; simp; omega, fun h => by have := hb.2; have := h.1; omega⟩) own9 gr9); have BG9 : Hid (Keep (fun b => b < w8.heap.size) w8 w9) := Lib.hid (((Keep.refl (fun b => b < w8.heap.size) w8).alloc _).trans (gr9.keep.mono (S' := fun b => b < w8.heap.size) fun b _ hb e => by have := OX8.out.lt b e; omega) (fun _ _ h => h)); have LA9 : v9 = v9 ∧ ∃ A c, v9 = .slice A (LP ++ [skipS]).length c ∧ (LP ++ [skipS]).length ≤ c ∧ c ≤ maxLen := ⟨rfl, GN9.out.slice⟩; obtain ⟨-, A9, c9, rfl, hA9, hc9⟩ := LA9; obtain ⟨L9, hL9⟩ : ∃ L', L' = LP ++ [skipS] := ⟨_, rfl⟩; have hlL9 : L9.length ≤ LP.length + [skipS].length := (by rw [hL9, List.length_append]; omega); have HL9 := Lib.hid hL9; rw [← hL9] at GN9 hA9 ⊢; clear hL9 own9 gr9))
            have K9 : Hid (CurAt w9 p A c code k8') := Lib.hid ⟨by rw [BG9.out.block p (lt_of_block K8.out.at') (by omega)]; exact K8.out.at', K8.out.le⟩
            have P9 : Hid (Keep (fun b => b < wr.heap.size ∧ b ≠ p) wr w9) := Lib.hid (P8.out.trans BG9.out (fun b _ h => by have := h.1; omega))
            have HSP : Hid (spnS code ns acc.length [skipS] k6' = (L9, k8')) := Lib.hid (by rw [HI.out, spnS_zero_yes HZ8.out HY0.out, HNS1.out, HL9.out, HLP.out])
            have hz9 : wr.heap.size ≤ w9.heap.size := P9.out.size
            -- STAGE D
            have BXW : Hid (w9.heap[bx]? = some (.cells #[.slice (some ⟨gb, 0, none⟩) 4 4, .slice (some ⟨lb, 0, none⟩) 3 3, .slice pA acc.length pc] 27 (0, 0))) := Lib.hid ((P9.out.block bx (by omega) ⟨by omega, by omega⟩).trans BX.out)
            have NBW : Hid (w9.heap[nb]? = some (.cells nmA 9 (0, 0))) := Lib.hid ((P9.out.block nb (by omega) ⟨by omega, by omega⟩).trans NBr.out)
            have RBW : Hid (Rd w9 1 A code.length (bv code)) := Lib.hid (rd_apart RR'.out CU.out (P9.out.mono (fun b hb h => ⟨hb, h⟩)))
            obtain ⟨nmi, hnmi⟩ : ∃ s, s = nmD[acc.length] := ⟨_, rfl⟩
            have HNMI := Lib.hid hnmi
            have hnsz : nmi.size ≤ maxLen := by rw [hnmi]; exact nmD_sz _ (List.getElem_mem _)
            have b2 : w9.drew.cell? ⟨bx, 2, none⟩ = some (.slice pA acc.length pc) := (cells3 BXW.out).1.2.2
            have n0 : w9.drew.cell? ⟨nb, acc.length, none⟩ = some (.string nmi) := by
              show w9.cell? _ = _
              rw [Lib.cell_of_heap NBW.out, HNMI.out]; exact nmA_get hi4
            have h1N' : (1 : Int) ≤ (N : Int) := by omega
            have DL : Hid ((ns.drop 1).length = N - 1) := Lib.hid (by rw [List.length_drop, HNL.out.1])
            have NMS : Hid (∀ s ∈ ns.drop 1, s.size ≤ maxLen) := Lib.hid (fun s hs => nmD_sz s (by have := List.mem_of_mem_drop hs; rw [HNL.out.2] at this; exact List.mem_of_mem_take this))
            have NRD : Hid (Rd w9.drew 1 (some ⟨nb, 1, none⟩) (ns.drop 1).length ((ns.drop 1).map Value.string)) := Lib.hid (by rw [HNL.out.2]; exact rd_nm NBW.out)
            clear hnmi
            refine wp_region_sk (fun w' => w'.cell? ⟨bx, 2, none⟩ = some (.slice pA acc.length pc) ∧ w'.cell? ⟨nb, acc.length, none⟩ = some (.string nmi)) 15 (by kernel_rfl) ⟨b2, n0⟩ (fun hHeld => ?_)
            refine wpSk_take (i := 0) (v := ?hv0_10) rfl (by kernel_rfl) (fun _ _ _ h => h) (Or.inl ⟨by rfl, ?hy0_10⟩) (by assumption) ?hr0_10
            case hy0_10 => (intro wS hSw; (try dsimp only at hSw); go_simp; (try with_reducible rfl))
            try simp only [Act.put, List.setIfInBounds_toArray]
            refine wpSk_take (i := 1) (v := ?hv1_10) rfl (by kernel_rfl) (fun _ _ _ h => h) (Or.inl ⟨by rfl, ?hy1_10⟩) (by assumption) ?hr1_10
            case hy1_10 => (intro wS hSw; (try dsimp only at hSw); go_simp; (try with_reducible rfl))
            try simp only [Act.put]
            refine wpSk_take (i := 2) (v := ?hv2_10) rfl (by kernel_rfl) (fun _ _ _ h => h) (Or.inl ⟨by rfl, ?hy2_10⟩) (by assumption) ?hr2_10
            case hy2_10 => (intro wS hSw; (try dsimp only at hSw); go_simp; (try with_reducible rfl))
            try simp only [Act.put]
            refine wpSk_take (i := 3) (v := ?hv3_10) rfl (by kernel_rfl) (fun _ _ _ h => h) (Or.inl ⟨by rfl, ?hy3_10⟩) (by assumption) ?hr3_10
            case hy3_10 => (intro wS hSw; (try dsimp only at hSw); go_simp; (try with_reducible rfl))
            try simp only [Act.put]
            refine wpSk_take (i := 4) (v := ?hv4_10) rfl (by kernel_rfl) (fun _ _ _ h => h) (Or.inl ⟨by rfl, ?hy4_10⟩) (by assumption) ?hr4_10
            case hy4_10 => (intro wS hSw; (try dsimp only at hSw); go_simp; (try with_reducible rfl))
            try simp only [Act.put]
            refine wpSk_take (i := 5) (v := ?hv5_10) rfl (by kernel_rfl) (fun _ _ _ h => h) (Or.inl ⟨by rfl, ?hy5_10⟩) (by assumption) ?hr5_10
            case hy5_10 => (intro wS hSw; (try dsimp only at hSw); go_simp; (try with_reducible rfl))
            try simp only [Act.put]
            refine wpSk_take (i := 6) (v := ?hv6_10) rfl (by kernel_rfl) (fun _ _ _ h => h) (Or.inl ⟨by rfl, ?hy6_10⟩) (by assumption) ?hr6_10
            case hy6_10 => (intro wS hSw; (try dsimp only at hSw); go_simp; (try with_reducible rfl))
            try simp only [Act.put]
            refine wpSk_take (i := 7) (v := ?hv7_10) rfl (by kernel_rfl) (fun _ _ _ h => h) (Or.inl ⟨by rfl, ?hy7_10⟩) (by assumption) ?hr7_10
            case hy7_10 => (intro wS hSw; (try dsimp only at hSw); go_simp; (try with_reducible rfl))
            try simp only [Act.put]
            refine wpSk_take (i := 8) (v := ?hv8_10) rfl (by kernel_rfl) (fun _ _ _ h => h) (Or.inl ⟨by rfl, ?hy8_10⟩) (by assumption) ?hr8_10
            case hy8_10 => (intro wS hSw; (try dsimp only at hSw); go_simp; (try with_reducible rfl))
            try simp only [Act.put]
            refine wpSk_take (i := 9) (v := ?hv9_10) rfl (by kernel_rfl) (fun _ _ _ h => h) (Or.inl ⟨by rfl, ?hy9_10⟩) (by assumption) ?hr9_10
            case hy9_10 => (intro wS hSw; (try dsimp only at hSw); go_simp; (try with_reducible rfl))
            try simp only [Act.put]
            have hN2 : 0 < N - 1 := by omega
            have HLC := Lib.hid (grwO_cap GN9.out)
            refine wpSk_step (i := 10) (by kernel_rfl) rfl (fun K hK => ?_)
            go_simp
            have FX := spec_l05Fix L9 (ns.drop 1) nb 1 3 p A c code k8' (fun b => wr.heap.size ≤ b ∧ b < w9.heap.size) A9 c9 w9.drew (by rw [DL.out]; omega) (by rw [DL.out]; omega) NMS.out NRD.out (fun h => by have := h.1; omega) (by omega) RBW.out (fun b off e hn h => by have := rd_lt RD.out e hn; have := h.1; omega) hl hc ⟨K9.out.at', K9.out.le⟩ (fun h => by have := h.1; omega) (GN9.out.rowB.keep fun _ _ => rfl) (fun b h => h.2) HLC.out.1 HLC.out.2
            rw [DL.out] at FX
            refine FX.mono ?_
            rintro e w10 ⟨rfl, r10, k10, kp10, sh10⟩
            have hfl := fixGs_len code (ns.drop 1) L9 k8'
            generalize hfx : fixGs code (ns.drop 1) L9 k8' = rx at *
            obtain ⟨lx, k5⟩ := rx
            simp only at r10 k10 hfl
            have HBD := Lib.hid (bdyD_of HTW.out HRAW.out HGR.out HSP.out hfx)
            have hz10 : w9.heap.size ≤ w10.heap.size := kp10.size
            have hzW : wr.heap.size ≤ w9.heap.size := P9.out.size
            have HPR : Hid (PrG w10 (fun b => wr.heap.size ≤ b ∧ b < w10.heap.size) [.string nmi, .slice A9 L9.length c9] ⟨nmi, lx⟩) := Lib.hid ⟨⟨nmi, A9, L9.length, c9⟩, rfl, ⟨rfl, hfl.symm, hnsz, by rw [show (⟨nmi, lx⟩ : Pr).body = lx from rfl, hfl]; exact HLC.out.1, HLC.out.2, r10.sub (fun b h => ⟨h.1, by have := h.2; omega⟩)⟩, (GN9.out.cap.shp sh10).sub (fun b h => ⟨h.1, by have := h.2; omega⟩)⟩
            have KW10 : Hid (Keep (fun b => b < wr.heap.size ∧ b ≠ p) wr w10) := Lib.hid (P9.out.trans (⟨kp10.os, kp10.tape, kp10.output, kp10.size, kp10.block⟩ : Keep _ w9 w10) (fun b hb h => ⟨fun hf => by have := hf.1; omega, h.2⟩))
            have b10 := kp10.cellEq (p := ⟨bx, 2, none⟩) ⟨fun h => by have : wr.heap.size ≤ bx := h.1; omega, by show bx ≠ p; omega⟩ b2
            have n10 := kp10.cellEq (p := ⟨nb, acc.length, none⟩) ⟨fun h => by have : wr.heap.size ≤ nb := h.1; omega, by show nb ≠ p; omega⟩ n0
            have BX10 : Hid (w10.heap[bx]? = some (.cells #[.slice (some ⟨gb, 0, none⟩) 4 4, .slice (some ⟨lb, 0, none⟩) 3 3, .slice pA acc.length pc] 27 (0, 0))) := Lib.hid ((kp10.block bx (by show bx < w9.heap.size; omega) ⟨fun h => by have := h.1; omega, by omega⟩).trans BXW.out)
            have K10 := Lib.hid k10
            clear FX r10 k10 kp10 sh10 hfx b2 n0
            refine hK.out _ _ (fun _ => ⟨b10, n10⟩) ?_
            clear hK K hHeld
            have hHeld : w10.cell? ⟨bx, 2, none⟩ = some (.slice pA acc.length pc) ∧ w10.cell? ⟨nb, acc.length, none⟩ = some (.string nmi) := ⟨b10, n10⟩
            try simp only [Act.put, List.setIfInBounds_toArray, List.set_cons_zero, List.set_cons_succ]
            refine wpSk_take (i := 11) (v := ?hv11_10) rfl (by kernel_rfl) (fun _ _ _ h => h) (Or.inl ⟨by rfl, ?hy11_10⟩) (by assumption) ?hr11_10
            case hy11_10 => (intro wS hSw; (try dsimp only at hSw); go_simp; (try with_reducible rfl))
            try simp only [Act.put, List.setIfInBounds_toArray]
            refine wpSk_step (i := 12) (by kernel_rfl) rfl (fun K hK => ?_)
            go_simp
            have b12 : (w10.alloc (.cells #[.string nmi, .slice A9 L9.length c9] 31)).cell? ⟨bx, 2, none⟩ = some (.slice pA acc.length pc) := (World.cell?_alloc_lt _ _ _ (by show bx < _; omega)).trans b10
            have n12 : (w10.alloc (.cells #[.string nmi, .slice A9 L9.length c9] 31)).cell? ⟨nb, acc.length, none⟩ = some (.string nmi) := (World.cell?_alloc_lt _ _ _ (by show nb < _; omega)).trans n10
            refine hK.out _ _ (fun _ => ⟨b12, n12⟩) ?_
            clear hK K hHeld
            try simp only [Act.put, List.setIfInBounds_toArray, List.set_cons_zero, List.set_cons_succ]
            obtain ⟨cs, GG, hat⟩ := GR.out
            have HAT := Lib.hid hat
            have OWX := Lib.hid ((hat.keep PrG.keepP KW10.out (by intro b hb hb2 _; exact ⟨hb2, by omega⟩)).ow)
            clear hat
            refine wpSk_step (i := 13) (by kernel_rfl) rfl (fun K hK => ?_)
            refine step_appG _ prT (by rfl) _ _ (by rfl) (by rfl) (OWX.out.own.alloc _) _ 1 1 [.string nmi, .slice A9 L9.length c9] (by rfl) (Rd.new _ 2 1 _ _ rfl) (by simp [Value.oneCell']) (by omega) (by decide) ?_
            intro v13 w13 own13 gr13
            have GZ : Hid (Grew (.slice pA acc.length pc) v13 w10 w13) := Lib.hid ((Grew.of_below (Below.alloc (Below.refl _ _) (Nat.le_refl _) _)).trans gr13)
            have GX13 : Hid (GrwX PrG 31 2 w1.heap.size (fun _ => False) w13 v13 (acc ++ [(⟨nmi, lx⟩ : Pr)])) := Lib.hid (grwx_app PrG.keepP (S := fun b => b < wr.heap.size ∧ b ≠ p) HAT.out KW10.out (by intro b hb hb2 _; exact ⟨hb2, by omega⟩) rfl HPR.out (by intro b h; exact ⟨h.1, h.2, fun h => h⟩) (fun b _ h => h) own13 GZ.out)
            obtain ⟨acc', hacc⟩ : ∃ a', a' = acc ++ [(⟨nmi, lx⟩ : Pr)] := ⟨_, rfl⟩
            have HACC := Lib.hid hacc
            have hal : acc'.length = acc.length + 1 := by rw [hacc]; simp
            have HAL := Lib.hid hal
            rw [← hacc] at GX13
            clear hacc hal
            have hnb : ∀ b, b < w1.heap.size → (Value.slice pA acc.length pc).ownBlock ≠ some b := fun b hb e => by have := HAT.out.ow.lt b e; omega
            have BK13 : Hid (Keep (fun b => b < w1.heap.size) w10 w13) := Lib.hid (GZ.out.keep.mono fun b _ hb => hnb b hb)
            have b13 := BK13.out.cellEq (p := ⟨bx, 2, none⟩) (by show bx < _; omega) b10
            have n13 := BK13.out.cellEq (p := ⟨nb, acc.length, none⟩) (by show nb < _; omega) n10
            have BX13 : Hid (w13.heap[bx]? = some (.cells #[.slice (some ⟨gb, 0, none⟩) 4 4, .slice (some ⟨lb, 0, none⟩) 3 3, .slice pA acc.length pc] 27 (0, 0))) := Lib.hid ((BK13.out.block bx (by omega) (by omega)).trans BX10.out)
            have K13 : Hid (CurAt w13 p A c code k5) := Lib.hid ⟨(BK13.out.block p (lt_of_block K10.out.at') (by omega)).trans K10.out.at', K10.out.le⟩
            have hz13 : w10.heap.size ≤ w13.heap.size := BK13.out.size
            have KW13 : Hid (Keep (fun b => b < w1.heap.size ∧ b ≠ p) wr w13) := Lib.hid ((KW10.out.mono (fun b _ (h : b < w1.heap.size ∧ b ≠ p) => ⟨by have := h.1; omega, h.2⟩)).trans BK13.out (fun b _ h => h.1))
            obtain ⟨-, A13, c13, rfl, hA13, hc13⟩ : v13 = v13 ∧ ∃ A c, v13 = .slice A acc'.length c ∧ acc'.length ≤ c ∧ c ≤ maxLen := ⟨rfl, GX13.out.slice⟩
            refine hK.out _ _ (fun _ => ⟨b13, n13⟩) ?_
            clear hK K own13 gr13 b10 n10 b12 n12
            try simp only [Act.put, List.setIfInBounds_toArray]
            have hHeld : w13.cell? ⟨bx, 2, none⟩ = some (.slice pA acc.length pc) ∧ w13.cell? ⟨nb, acc.length, none⟩ = some (.string nmi) := ⟨b13, n13⟩
            refine wpSk_take (i := 14) (v := ?hv14_10) rfl (by kernel_rfl) (fun _ _ _ h => h) (Or.inl ⟨by rfl, ?hy14_10⟩) (by assumption) ?hr14_10
            case hy14_10 => (intro wS hSw; (try dsimp only at hSw); go_simp; (try with_reducible rfl))
            try simp only [Act.put]
            clear hHeld
            have f13 : w13.frozen? ⟨bx, 2, none⟩ = false := (cells3 BX13.out).2.2.2
            refine wpSk_step (i := 15) (by kernel_rfl) rfl (fun K hK => ?_)
            go_simp
            refine hK.out _ _ (fun h => absurd h (by decide)) ?_
            clear hK K
            refine wpSk_done (by kernel_rfl) ?_ _
            have HNEW : Hid (prsD code ns (N - acc'.length) acc' k5 = FIN) := Lib.hid (by
              have hq := PR.out
              have hal := HAL.out
              rw [show N - acc.length = (N - acc'.length) + 1 by omega, prsD_more HBD.out] at hq
              have hns : ns[acc.length]?.getD ByteArray.empty = nmi := by rw [HNL.out.2, List.getElem?_take, if_pos hlt, HNMI.out, List.getElem?_eq_getElem (by exact hi4)]; rfl
              rw [hns, ← HACC.out] at hq
              exact hq)
            go_wp2_with fail
            go_roundw
            case rel =>
              refine ⟨acc', k5, by have := HAL.out; omega, by rw [HAL.out]; go_num, Lib.hid ⟨_, ?_, GX13.out.keep PrG.keepP (Keep.setCell (S := fun b => b ≠ bx) (p := ⟨bx, 2, none⟩) (Keep.refl _ _) (fun h => h rfl) _) (fun b hb _ _ => by omega), K13.out.setNew (a := ⟨bx, 2, none⟩) (by show bx ≠ p; omega) _, ((KP.out.trans KW13.out (fun b hb h => ⟨h.1, h.2.1⟩)).setCell (p := ⟨bx, 2, none⟩) (fun h => h.2.2 rfl) _), HNEW.out⟩⟩
              rw [heap_setCell_same w13 bx 2 _ _ _ BX13.out]; rfl
            case measure => have := HAL.out; simp [intOf]; omega
          · have hyb : (y == 0) = false := by simp [hy]
            have HSP : Hid (spnS code ns acc.length [skipS] k6' = ([skipS], k8')) := Lib.hid (by rw [HI.out, spnS_zero_no HZ8.out hy])
            go_wp2_with fail
            -- STAGE D
            have BXW : Hid (w8.heap[bx]? = some (.cells #[.slice (some ⟨gb, 0, none⟩) 4 4, .slice (some ⟨lb, 0, none⟩) 3 3, .slice pA acc.length pc] 27 (0, 0))) := Lib.hid ((P8.out.block bx (by omega) ⟨by omega, by omega⟩).trans BX.out)
            have NBW : Hid (w8.heap[nb]? = some (.cells nmA 9 (0, 0))) := Lib.hid ((P8.out.block nb (by omega) ⟨by omega, by omega⟩).trans NBr.out)
            have RBW : Hid (Rd w8 1 A code.length (bv code)) := Lib.hid (rd_apart RR'.out CU.out (P8.out.mono (fun b hb h => ⟨hb, h⟩)))
            obtain ⟨nmi, hnmi⟩ : ∃ s, s = nmD[acc.length] := ⟨_, rfl⟩
            have HNMI := Lib.hid hnmi
            have hnsz : nmi.size ≤ maxLen := by rw [hnmi]; exact nmD_sz _ (List.getElem_mem _)
            have b2 : w8.drew.cell? ⟨bx, 2, none⟩ = some (.slice pA acc.length pc) := (cells3 BXW.out).1.2.2
            have n0 : w8.drew.cell? ⟨nb, acc.length, none⟩ = some (.string nmi) := by
              show w8.cell? _ = _
              rw [Lib.cell_of_heap NBW.out, HNMI.out]; exact nmA_get hi4
            have h1N' : (1 : Int) ≤ (N : Int) := by omega
            have DL : Hid ((ns.drop 1).length = N - 1) := Lib.hid (by rw [List.length_drop, HNL.out.1])
            have NMS : Hid (∀ s ∈ ns.drop 1, s.size ≤ maxLen) := Lib.hid (fun s hs => nmD_sz s (by have := List.mem_of_mem_drop hs; rw [HNL.out.2] at this; exact List.mem_of_mem_take this))
            have NRD : Hid (Rd w8.drew 1 (some ⟨nb, 1, none⟩) (ns.drop 1).length ((ns.drop 1).map Value.string)) := Lib.hid (by rw [HNL.out.2]; exact rd_nm NBW.out)
            clear hnmi
            refine wp_region_sk (fun w' => w'.cell? ⟨bx, 2, none⟩ = some (.slice pA acc.length pc) ∧ w'.cell? ⟨nb, acc.length, none⟩ = some (.string nmi)) 15 (by kernel_rfl) ⟨b2, n0⟩ (fun hHeld => ?_)
            refine wpSk_take (i := 0) (v := ?hv0_11) rfl (by kernel_rfl) (fun _ _ _ h => h) (Or.inl ⟨by rfl, ?hy0_11⟩) (by assumption) ?hr0_11
            case hy0_11 => (intro wS hSw; (try dsimp only at hSw); go_simp; (try with_reducible rfl))
            try simp only [Act.put, List.setIfInBounds_toArray]
            refine wpSk_take (i := 1) (v := ?hv1_11) rfl (by kernel_rfl) (fun _ _ _ h => h) (Or.inl ⟨by rfl, ?hy1_11⟩) (by assumption) ?hr1_11
            case hy1_11 => (intro wS hSw; (try dsimp only at hSw); go_simp; (try with_reducible rfl))
            try simp only [Act.put]
            refine wpSk_take (i := 2) (v := ?hv2_11) rfl (by kernel_rfl) (fun _ _ _ h => h) (Or.inl ⟨by rfl, ?hy2_11⟩) (by assumption) ?hr2_11
            case hy2_11 => (intro wS hSw; (try dsimp only at hSw); go_simp; (try with_reducible rfl))
            try simp only [Act.put]
            refine wpSk_take (i := 3) (v := ?hv3_11) rfl (by kernel_rfl) (fun _ _ _ h => h) (Or.inl ⟨by rfl, ?hy3_11⟩) (by assumption) ?hr3_11
            case hy3_11 => (intro wS hSw; (try dsimp only at hSw); go_simp; (try with_reducible rfl))
            try simp only [Act.put]
            refine wpSk_take (i := 4) (v := ?hv4_11) rfl (by kernel_rfl) (fun _ _ _ h => h) (Or.inl ⟨by rfl, ?hy4_11⟩) (by assumption) ?hr4_11
            case hy4_11 => (intro wS hSw; (try dsimp only at hSw); go_simp; (try with_reducible rfl))
            try simp only [Act.put]
            refine wpSk_take (i := 5) (v := ?hv5_11) rfl (by kernel_rfl) (fun _ _ _ h => h) (Or.inl ⟨by rfl, ?hy5_11⟩) (by assumption) ?hr5_11
            case hy5_11 => (intro wS hSw; (try dsimp only at hSw); go_simp; (try with_reducible rfl))
            try simp only [Act.put]
            refine wpSk_take (i := 6) (v := ?hv6_11) rfl (by kernel_rfl) (fun _ _ _ h => h) (Or.inl ⟨by rfl, ?hy6_11⟩) (by assumption) ?hr6_11
            case hy6_11 => (intro wS hSw; (try dsimp only at hSw); go_simp; (try with_reducible rfl))
            try simp only [Act.put]
            refine wpSk_take (i := 7) (v := ?hv7_11) rfl (by kernel_rfl) (fun _ _ _ h => h) (Or.inl ⟨by rfl, ?hy7_11⟩) (by assumption) ?hr7_11
            case hy7_11 => (intro wS hSw; (try dsimp only at hSw); go_simp; (try with_reducible rfl))
            try simp only [Act.put]
            refine wpSk_take (i := 8) (v := ?hv8_11) rfl (by kernel_rfl) (fun _ _ _ h => h) (Or.inl ⟨by rfl, ?hy8_11⟩) (by assumption) ?hr8_11
            case hy8_11 => (intro wS hSw; (try dsimp only at hSw); go_simp; (try with_reducible rfl))
            try simp only [Act.put]
            refine wpSk_take (i := 9) (v := ?hv9_11) rfl (by kernel_rfl) (fun _ _ _ h => h) (Or.inl ⟨by rfl, ?hy9_11⟩) (by assumption) ?hr9_11
            case hy9_11 => (intro wS hSw; (try dsimp only at hSw); go_simp; (try with_reducible rfl))
            try simp only [Act.put]
            have hN2 : 0 < N - 1 := by omega
            have HLC := Lib.hid (grwO_cap G8.out)
            refine wpSk_step (i := 10) (by kernel_rfl) rfl (fun K hK => ?_)
            go_simp
            have FX := spec_l05Fix [skipS] (ns.drop 1) nb 1 3 p A c code k8' (fun b => wr.heap.size ≤ b ∧ b < w8.heap.size) (some ⟨w5.heap.size, 0, none⟩) 1 w8.drew (by rw [DL.out]; omega) (by rw [DL.out]; omega) NMS.out NRD.out (fun h => by have := h.1; omega) (by omega) RBW.out (fun b off e hn h => by have := rd_lt RD.out e hn; have := h.1; omega) hl hc ⟨K8.out.at', K8.out.le⟩ (fun h => by have := h.1; omega) (G8.out.rowB.keep fun _ _ => rfl) (fun b h => h.2) HLC.out.1 HLC.out.2
            rw [DL.out] at FX
            refine FX.mono ?_
            rintro e w10 ⟨rfl, r10, k10, kp10, sh10⟩
            have hfl := fixGs_len code (ns.drop 1) [skipS] k8'
            generalize hfx : fixGs code (ns.drop 1) [skipS] k8' = rx at *
            obtain ⟨lx, k5⟩ := rx
            simp only at r10 k10 hfl
            have HBD := Lib.hid (bdyD_of HTW.out HRAW.out HGR.out HSP.out hfx)
            have hz10 : w8.heap.size ≤ w10.heap.size := kp10.size
            have hzW : wr.heap.size ≤ w8.heap.size := P8.out.size
            have HPR : Hid (PrG w10 (fun b => wr.heap.size ≤ b ∧ b < w10.heap.size) [.string nmi, .slice (some ⟨w5.heap.size, 0, none⟩) [skipS].length 1] ⟨nmi, lx⟩) := Lib.hid ⟨⟨nmi, (some ⟨w5.heap.size, 0, none⟩), [skipS].length, 1⟩, rfl, ⟨rfl, hfl.symm, hnsz, by rw [show (⟨nmi, lx⟩ : Pr).body = lx from rfl, hfl]; exact HLC.out.1, HLC.out.2, r10.sub (fun b h => ⟨h.1, by have := h.2; omega⟩)⟩, (G8.out.cap.shp sh10).sub (fun b h => ⟨h.1, by have := h.2; omega⟩)⟩
            have KW10 : Hid (Keep (fun b => b < wr.heap.size ∧ b ≠ p) wr w10) := Lib.hid (P8.out.trans (⟨kp10.os, kp10.tape, kp10.output, kp10.size, kp10.block⟩ : Keep _ w8 w10) (fun b hb h => ⟨fun hf => by have := hf.1; omega, h.2⟩))
            have b10 := kp10.cellEq (p := ⟨bx, 2, none⟩) ⟨fun h => by have : wr.heap.size ≤ bx := h.1; omega, by show bx ≠ p; omega⟩ b2
            have n10 := kp10.cellEq (p := ⟨nb, acc.length, none⟩) ⟨fun h => by have : wr.heap.size ≤ nb := h.1; omega, by show nb ≠ p; omega⟩ n0
            have BX10 : Hid (w10.heap[bx]? = some (.cells #[.slice (some ⟨gb, 0, none⟩) 4 4, .slice (some ⟨lb, 0, none⟩) 3 3, .slice pA acc.length pc] 27 (0, 0))) := Lib.hid ((kp10.block bx (by show bx < w8.heap.size; omega) ⟨fun h => by have := h.1; omega, by omega⟩).trans BXW.out)
            have K10 := Lib.hid k10
            clear FX r10 k10 kp10 sh10 hfx b2 n0
            refine hK.out _ _ (fun _ => ⟨b10, n10⟩) ?_
            clear hK K hHeld
            have hHeld : w10.cell? ⟨bx, 2, none⟩ = some (.slice pA acc.length pc) ∧ w10.cell? ⟨nb, acc.length, none⟩ = some (.string nmi) := ⟨b10, n10⟩
            try simp only [Act.put, List.setIfInBounds_toArray, List.set_cons_zero, List.set_cons_succ]
            refine wpSk_take (i := 11) (v := ?hv11_11) rfl (by kernel_rfl) (fun _ _ _ h => h) (Or.inl ⟨by rfl, ?hy11_11⟩) (by assumption) ?hr11_11
            case hy11_11 => (intro wS hSw; (try dsimp only at hSw); go_simp; (try with_reducible rfl))
            try simp only [Act.put, List.setIfInBounds_toArray]
            refine wpSk_step (i := 12) (by kernel_rfl) rfl (fun K hK => ?_)
            go_simp
            have b12 : (w10.alloc (.cells #[.string nmi, .slice (some ⟨w5.heap.size, 0, none⟩) [skipS].length 1] 31)).cell? ⟨bx, 2, none⟩ = some (.slice pA acc.length pc) := (World.cell?_alloc_lt _ _ _ (by show bx < _; omega)).trans b10
            have n12 : (w10.alloc (.cells #[.string nmi, .slice (some ⟨w5.heap.size, 0, none⟩) [skipS].length 1] 31)).cell? ⟨nb, acc.length, none⟩ = some (.string nmi) := (World.cell?_alloc_lt _ _ _ (by show nb < _; omega)).trans n10
            refine hK.out _ _ (fun _ => ⟨b12, n12⟩) ?_
            clear hK K hHeld
            try simp only [Act.put, List.setIfInBounds_toArray, List.set_cons_zero, List.set_cons_succ]
            obtain ⟨cs, GG, hat⟩ := GR.out
            have HAT := Lib.hid hat
            have OWX := Lib.hid ((hat.keep PrG.keepP KW10.out (by intro b hb hb2 _; exact ⟨hb2, by omega⟩)).ow)
            clear hat
            refine wpSk_step (i := 13) (by kernel_rfl) rfl (fun K hK => ?_)
            refine step_appG _ prT (by rfl) _ _ (by rfl) (by rfl) (OWX.out.own.alloc _) _ 1 1 [.string nmi, .slice (some ⟨w5.heap.size, 0, none⟩) [skipS].length 1] (by rfl) (Rd.new _ 2 1 _ _ rfl) (by simp [Value.oneCell']) (by omega) (by decide) ?_
            intro v13 w13 own13 gr13
            have GZ : Hid (Grew (.slice pA acc.length pc) v13 w10 w13) := Lib.hid ((Grew.of_below (Below.alloc (Below.refl _ _) (Nat.le_refl _) _)).trans gr13)
            have GX13 : Hid (GrwX PrG 31 2 w1.heap.size (fun _ => False) w13 v13 (acc ++ [(⟨nmi, lx⟩ : Pr)])) := Lib.hid (grwx_app PrG.keepP (S := fun b => b < wr.heap.size ∧ b ≠ p) HAT.out KW10.out (by intro b hb hb2 _; exact ⟨hb2, by omega⟩) rfl HPR.out (by intro b h; exact ⟨h.1, h.2, fun h => h⟩) (fun b _ h => h) own13 GZ.out)
            obtain ⟨acc', hacc⟩ : ∃ a', a' = acc ++ [(⟨nmi, lx⟩ : Pr)] := ⟨_, rfl⟩
            have HACC := Lib.hid hacc
            have hal : acc'.length = acc.length + 1 := by rw [hacc]; simp
            have HAL := Lib.hid hal
            rw [← hacc] at GX13
            clear hacc hal
            have hnb : ∀ b, b < w1.heap.size → (Value.slice pA acc.length pc).ownBlock ≠ some b := fun b hb e => by have := HAT.out.ow.lt b e; omega
            have BK13 : Hid (Keep (fun b => b < w1.heap.size) w10 w13) := Lib.hid (GZ.out.keep.mono fun b _ hb => hnb b hb)
            have b13 := BK13.out.cellEq (p := ⟨bx, 2, none⟩) (by show bx < _; omega) b10
            have n13 := BK13.out.cellEq (p := ⟨nb, acc.length, none⟩) (by show nb < _; omega) n10
            have BX13 : Hid (w13.heap[bx]? = some (.cells #[.slice (some ⟨gb, 0, none⟩) 4 4, .slice (some ⟨lb, 0, none⟩) 3 3, .slice pA acc.length pc] 27 (0, 0))) := Lib.hid ((BK13.out.block bx (by omega) (by omega)).trans BX10.out)
            have K13 : Hid (CurAt w13 p A c code k5) := Lib.hid ⟨(BK13.out.block p (lt_of_block K10.out.at') (by omega)).trans K10.out.at', K10.out.le⟩
            have hz13 : w10.heap.size ≤ w13.heap.size := BK13.out.size
            have KW13 : Hid (Keep (fun b => b < w1.heap.size ∧ b ≠ p) wr w13) := Lib.hid ((KW10.out.mono (fun b _ (h : b < w1.heap.size ∧ b ≠ p) => ⟨by have := h.1; omega, h.2⟩)).trans BK13.out (fun b _ h => h.1))
            obtain ⟨-, A13, c13, rfl, hA13, hc13⟩ : v13 = v13 ∧ ∃ A c, v13 = .slice A acc'.length c ∧ acc'.length ≤ c ∧ c ≤ maxLen := ⟨rfl, GX13.out.slice⟩
            refine hK.out _ _ (fun _ => ⟨b13, n13⟩) ?_
            clear hK K own13 gr13 b10 n10 b12 n12
            try simp only [Act.put, List.setIfInBounds_toArray]
            have hHeld : w13.cell? ⟨bx, 2, none⟩ = some (.slice pA acc.length pc) ∧ w13.cell? ⟨nb, acc.length, none⟩ = some (.string nmi) := ⟨b13, n13⟩
            refine wpSk_take (i := 14) (v := ?hv14_11) rfl (by kernel_rfl) (fun _ _ _ h => h) (Or.inl ⟨by rfl, ?hy14_11⟩) (by assumption) ?hr14_11
            case hy14_11 => (intro wS hSw; (try dsimp only at hSw); go_simp; (try with_reducible rfl))
            try simp only [Act.put]
            clear hHeld
            have f13 : w13.frozen? ⟨bx, 2, none⟩ = false := (cells3 BX13.out).2.2.2
            refine wpSk_step (i := 15) (by kernel_rfl) rfl (fun K hK => ?_)
            go_simp
            refine hK.out _ _ (fun h => absurd h (by decide)) ?_
            clear hK K
            refine wpSk_done (by kernel_rfl) ?_ _
            have HNEW : Hid (prsD code ns (N - acc'.length) acc' k5 = FIN) := Lib.hid (by
              have hq := PR.out
              have hal := HAL.out
              rw [show N - acc.length = (N - acc'.length) + 1 by omega, prsD_more HBD.out] at hq
              have hns : ns[acc.length]?.getD ByteArray.empty = nmi := by rw [HNL.out.2, List.getElem?_take, if_pos hlt, HNMI.out, List.getElem?_eq_getElem (by exact hi4)]; rfl
              rw [hns, ← HACC.out] at hq
              exact hq)
            go_wp2_with fail
            go_roundw
            case rel =>
              refine ⟨acc', k5, by have := HAL.out; omega, by rw [HAL.out]; go_num, Lib.hid ⟨_, ?_, GX13.out.keep PrG.keepP (Keep.setCell (S := fun b => b ≠ bx) (p := ⟨bx, 2, none⟩) (Keep.refl _ _) (fun h => h rfl) _) (fun b hb _ _ => by omega), K13.out.setNew (a := ⟨bx, 2, none⟩) (by show bx ≠ p; omega) _, ((KP.out.trans KW13.out (fun b hb h => ⟨h.1, h.2.1⟩)).setCell (p := ⟨bx, 2, none⟩) (fun h => h.2.2 rfl) _), HNEW.out⟩⟩
              rw [heap_setCell_same w13 bx 2 _ _ _ BX13.out]; rfl
            case measure => have := HAL.out; simp [intOf]; omega
        · have hib : ((acc.length : Int) == 0) = false := beq_eq_false_iff_ne.2 (by omega)
          have HSP := Lib.hid (spnS_more (code := code) (ns := ns) (l := [skipS]) (k := k6') hi)
          go_wp2_with fail
          -- STAGE D
          have BXW : Hid (w6.heap[bx]? = some (.cells #[.slice (some ⟨gb, 0, none⟩) 4 4, .slice (some ⟨lb, 0, none⟩) 3 3, .slice pA acc.length pc] 27 (0, 0))) := Lib.hid ((P6.out.block bx (by omega) ⟨by omega, by omega⟩).trans BX.out)
          have NBW : Hid (w6.heap[nb]? = some (.cells nmA 9 (0, 0))) := Lib.hid ((P6.out.block nb (by omega) ⟨by omega, by omega⟩).trans NBr.out)
          have RBW : Hid (Rd w6 1 A code.length (bv code)) := Lib.hid (rd_apart RR'.out CU.out (P6.out.mono (fun b hb h => ⟨hb, h⟩)))
          obtain ⟨nmi, hnmi⟩ : ∃ s, s = nmD[acc.length] := ⟨_, rfl⟩
          have HNMI := Lib.hid hnmi
          have hnsz : nmi.size ≤ maxLen := by rw [hnmi]; exact nmD_sz _ (List.getElem_mem _)
          have b2 : w6.drew.cell? ⟨bx, 2, none⟩ = some (.slice pA acc.length pc) := (cells3 BXW.out).1.2.2
          have n0 : w6.drew.cell? ⟨nb, acc.length, none⟩ = some (.string nmi) := by
            show w6.cell? _ = _
            rw [Lib.cell_of_heap NBW.out, HNMI.out]; exact nmA_get hi4
          have h1N' : (1 : Int) ≤ (N : Int) := by omega
          have DL : Hid ((ns.drop 1).length = N - 1) := Lib.hid (by rw [List.length_drop, HNL.out.1])
          have NMS : Hid (∀ s ∈ ns.drop 1, s.size ≤ maxLen) := Lib.hid (fun s hs => nmD_sz s (by have := List.mem_of_mem_drop hs; rw [HNL.out.2] at this; exact List.mem_of_mem_take this))
          have NRD : Hid (Rd w6.drew 1 (some ⟨nb, 1, none⟩) (ns.drop 1).length ((ns.drop 1).map Value.string)) := Lib.hid (by rw [HNL.out.2]; exact rd_nm NBW.out)
          clear hnmi
          refine wp_region_sk (fun w' => w'.cell? ⟨bx, 2, none⟩ = some (.slice pA acc.length pc) ∧ w'.cell? ⟨nb, acc.length, none⟩ = some (.string nmi)) 15 (by kernel_rfl) ⟨b2, n0⟩ (fun hHeld => ?_)
          refine wpSk_take (i := 0) (v := ?hv0_12) rfl (by kernel_rfl) (fun _ _ _ h => h) (Or.inl ⟨by rfl, ?hy0_12⟩) (by assumption) ?hr0_12
          case hy0_12 => (intro wS hSw; (try dsimp only at hSw); go_simp; (try with_reducible rfl))
          try simp only [Act.put, List.setIfInBounds_toArray]
          refine wpSk_take (i := 1) (v := ?hv1_12) rfl (by kernel_rfl) (fun _ _ _ h => h) (Or.inl ⟨by rfl, ?hy1_12⟩) (by assumption) ?hr1_12
          case hy1_12 => (intro wS hSw; (try dsimp only at hSw); go_simp; (try with_reducible rfl))
          try simp only [Act.put]
          refine wpSk_take (i := 2) (v := ?hv2_12) rfl (by kernel_rfl) (fun _ _ _ h => h) (Or.inl ⟨by rfl, ?hy2_12⟩) (by assumption) ?hr2_12
          case hy2_12 => (intro wS hSw; (try dsimp only at hSw); go_simp; (try with_reducible rfl))
          try simp only [Act.put]
          refine wpSk_take (i := 3) (v := ?hv3_12) rfl (by kernel_rfl) (fun _ _ _ h => h) (Or.inl ⟨by rfl, ?hy3_12⟩) (by assumption) ?hr3_12
          case hy3_12 => (intro wS hSw; (try dsimp only at hSw); go_simp; (try with_reducible rfl))
          try simp only [Act.put]
          refine wpSk_take (i := 4) (v := ?hv4_12) rfl (by kernel_rfl) (fun _ _ _ h => h) (Or.inl ⟨by rfl, ?hy4_12⟩) (by assumption) ?hr4_12
          case hy4_12 => (intro wS hSw; (try dsimp only at hSw); go_simp; (try with_reducible rfl))
          try simp only [Act.put]
          refine wpSk_take (i := 5) (v := ?hv5_12) rfl (by kernel_rfl) (fun _ _ _ h => h) (Or.inl ⟨by rfl, ?hy5_12⟩) (by assumption) ?hr5_12
          case hy5_12 => (intro wS hSw; (try dsimp only at hSw); go_simp; (try with_reducible rfl))
          try simp only [Act.put]
          refine wpSk_take (i := 6) (v := ?hv6_12) rfl (by kernel_rfl) (fun _ _ _ h => h) (Or.inl ⟨by rfl, ?hy6_12⟩) (by assumption) ?hr6_12
          case hy6_12 => (intro wS hSw; (try dsimp only at hSw); go_simp; (try with_reducible rfl))
          try simp only [Act.put]
          refine wpSk_take (i := 7) (v := ?hv7_12) rfl (by kernel_rfl) (fun _ _ _ h => h) (Or.inl ⟨by rfl, ?hy7_12⟩) (by assumption) ?hr7_12
          case hy7_12 => (intro wS hSw; (try dsimp only at hSw); go_simp; (try with_reducible rfl))
          try simp only [Act.put]
          refine wpSk_take (i := 8) (v := ?hv8_12) rfl (by kernel_rfl) (fun _ _ _ h => h) (Or.inl ⟨by rfl, ?hy8_12⟩) (by assumption) ?hr8_12
          case hy8_12 => (intro wS hSw; (try dsimp only at hSw); go_simp; (try with_reducible rfl))
          try simp only [Act.put]
          refine wpSk_take (i := 9) (v := ?hv9_12) rfl (by kernel_rfl) (fun _ _ _ h => h) (Or.inl ⟨by rfl, ?hy9_12⟩) (by assumption) ?hr9_12
          case hy9_12 => (intro wS hSw; (try dsimp only at hSw); go_simp; (try with_reducible rfl))
          try simp only [Act.put]
          have hN2 : 0 < N - 1 := by omega
          have HLC := Lib.hid (grwO_cap G6.out)
          refine wpSk_step (i := 10) (by kernel_rfl) rfl (fun K hK => ?_)
          go_simp
          have FX := spec_l05Fix [skipS] (ns.drop 1) nb 1 3 p A c code k6' (fun b => wr.heap.size ≤ b ∧ b < w6.heap.size) (some ⟨w5.heap.size, 0, none⟩) 1 w6.drew (by rw [DL.out]; omega) (by rw [DL.out]; omega) NMS.out NRD.out (fun h => by have := h.1; omega) (by omega) RBW.out (fun b off e hn h => by have := rd_lt RD.out e hn; have := h.1; omega) hl hc ⟨K6.out.at', K6.out.le⟩ (fun h => by have := h.1; omega) (G6.out.rowB.keep fun _ _ => rfl) (fun b h => h.2) HLC.out.1 HLC.out.2
          rw [DL.out] at FX
          refine FX.mono ?_
          rintro e w10 ⟨rfl, r10, k10, kp10, sh10⟩
          have hfl := fixGs_len code (ns.drop 1) [skipS] k6'
          generalize hfx : fixGs code (ns.drop 1) [skipS] k6' = rx at *
          obtain ⟨lx, k5⟩ := rx
          simp only at r10 k10 hfl
          have HBD := Lib.hid (bdyD_of HTW.out HRAW.out HGR.out HSP.out hfx)
          have hz10 : w6.heap.size ≤ w10.heap.size := kp10.size
          have hzW : wr.heap.size ≤ w6.heap.size := P6.out.size
          have HPR : Hid (PrG w10 (fun b => wr.heap.size ≤ b ∧ b < w10.heap.size) [.string nmi, .slice (some ⟨w5.heap.size, 0, none⟩) [skipS].length 1] ⟨nmi, lx⟩) := Lib.hid ⟨⟨nmi, (some ⟨w5.heap.size, 0, none⟩), [skipS].length, 1⟩, rfl, ⟨rfl, hfl.symm, hnsz, by rw [show (⟨nmi, lx⟩ : Pr).body = lx from rfl, hfl]; exact HLC.out.1, HLC.out.2, r10.sub (fun b h => ⟨h.1, by have := h.2; omega⟩)⟩, (G6.out.cap.shp sh10).sub (fun b h => ⟨h.1, by have := h.2; omega⟩)⟩
          have KW10 : Hid (Keep (fun b => b < wr.heap.size ∧ b ≠ p) wr w10) := Lib.hid (P6.out.trans (⟨kp10.os, kp10.tape, kp10.output, kp10.size, kp10.block⟩ : Keep _ w6 w10) (fun b hb h => ⟨fun hf => by have := hf.1; omega, h.2⟩))
          have b10 := kp10.cellEq (p := ⟨bx, 2, none⟩) ⟨fun h => by have : wr.heap.size ≤ bx := h.1; omega, by show bx ≠ p; omega⟩ b2
          have n10 := kp10.cellEq (p := ⟨nb, acc.length, none⟩) ⟨fun h => by have : wr.heap.size ≤ nb := h.1; omega, by show nb ≠ p; omega⟩ n0
          have BX10 : Hid (w10.heap[bx]? = some (.cells #[.slice (some ⟨gb, 0, none⟩) 4 4, .slice (some ⟨lb, 0, none⟩) 3 3, .slice pA acc.length pc] 27 (0, 0))) := Lib.hid ((kp10.block bx (by show bx < w6.heap.size; omega) ⟨fun h => by have := h.1; omega, by omega⟩).trans BXW.out)
          have K10 := Lib.hid k10
          clear FX r10 k10 kp10 sh10 hfx b2 n0
          refine hK.out _ _ (fun _ => ⟨b10, n10⟩) ?_
          clear hK K hHeld
          have hHeld : w10.cell? ⟨bx, 2, none⟩ = some (.slice pA acc.length pc) ∧ w10.cell? ⟨nb, acc.length, none⟩ = some (.string nmi) := ⟨b10, n10⟩
          try simp only [Act.put, List.setIfInBounds_toArray, List.set_cons_zero, List.set_cons_succ]
          refine wpSk_take (i := 11) (v := ?hv11_12) rfl (by kernel_rfl) (fun _ _ _ h => h) (Or.inl ⟨by rfl, ?hy11_12⟩) (by assumption) ?hr11_12
          case hy11_12 => (intro wS hSw; (try dsimp only at hSw); go_simp; (try with_reducible rfl))
          try simp only [Act.put, List.setIfInBounds_toArray]
          refine wpSk_step (i := 12) (by kernel_rfl) rfl (fun K hK => ?_)
          go_simp
          have b12 : (w10.alloc (.cells #[.string nmi, .slice (some ⟨w5.heap.size, 0, none⟩) [skipS].length 1] 31)).cell? ⟨bx, 2, none⟩ = some (.slice pA acc.length pc) := (World.cell?_alloc_lt _ _ _ (by show bx < _; omega)).trans b10
          have n12 : (w10.alloc (.cells #[.string nmi, .slice (some ⟨w5.heap.size, 0, none⟩) [skipS].length 1] 31)).cell? ⟨nb, acc.length, none⟩ = some (.string nmi) := (World.cell?_alloc_lt _ _ _ (by show nb < _; omega)).trans n10
          refine hK.out _ _ (fun _ => ⟨b12, n12⟩) ?_
          clear hK K hHeld
          try simp only [Act.put, List.setIfInBounds_toArray, List.set_cons_zero, List.set_cons_succ]
          obtain ⟨cs, GG, hat⟩ := GR.out
          have HAT := Lib.hid hat
          have OWX := Lib.hid ((hat.keep PrG.keepP KW10.out (by intro b hb hb2 _; exact ⟨hb2, by omega⟩)).ow)
          clear hat
          refine wpSk_step (i := 13) (by kernel_rfl) rfl (fun K hK => ?_)
          refine step_appG _ prT (by rfl) _ _ (by rfl) (by rfl) (OWX.out.own.alloc _) _ 1 1 [.string nmi, .slice (some ⟨w5.heap.size, 0, none⟩) [skipS].length 1] (by rfl) (Rd.new _ 2 1 _ _ rfl) (by simp [Value.oneCell']) (by omega) (by decide) ?_
          intro v13 w13 own13 gr13
          have GZ : Hid (Grew (.slice pA acc.length pc) v13 w10 w13) := Lib.hid ((Grew.of_below (Below.alloc (Below.refl _ _) (Nat.le_refl _) _)).trans gr13)
          have GX13 : Hid (GrwX PrG 31 2 w1.heap.size (fun _ => False) w13 v13 (acc ++ [(⟨nmi, lx⟩ : Pr)])) := Lib.hid (grwx_app PrG.keepP (S := fun b => b < wr.heap.size ∧ b ≠ p) HAT.out KW10.out (by intro b hb hb2 _; exact ⟨hb2, by omega⟩) rfl HPR.out (by intro b h; exact ⟨h.1, h.2, fun h => h⟩) (fun b _ h => h) own13 GZ.out)
          obtain ⟨acc', hacc⟩ : ∃ a', a' = acc ++ [(⟨nmi, lx⟩ : Pr)] := ⟨_, rfl⟩
          have HACC := Lib.hid hacc
          have hal : acc'.length = acc.length + 1 := by rw [hacc]; simp
          have HAL := Lib.hid hal
          rw [← hacc] at GX13
          clear hacc hal
          have hnb : ∀ b, b < w1.heap.size → (Value.slice pA acc.length pc).ownBlock ≠ some b := fun b hb e => by have := HAT.out.ow.lt b e; omega
          have BK13 : Hid (Keep (fun b => b < w1.heap.size) w10 w13) := Lib.hid (GZ.out.keep.mono fun b _ hb => hnb b hb)
          have b13 := BK13.out.cellEq (p := ⟨bx, 2, none⟩) (by show bx < _; omega) b10
          have n13 := BK13.out.cellEq (p := ⟨nb, acc.length, none⟩) (by show nb < _; omega) n10
          have BX13 : Hid (w13.heap[bx]? = some (.cells #[.slice (some ⟨gb, 0, none⟩) 4 4, .slice (some ⟨lb, 0, none⟩) 3 3, .slice pA acc.length pc] 27 (0, 0))) := Lib.hid ((BK13.out.block bx (by omega) (by omega)).trans BX10.out)
          have K13 : Hid (CurAt w13 p A c code k5) := Lib.hid ⟨(BK13.out.block p (lt_of_block K10.out.at') (by omega)).trans K10.out.at', K10.out.le⟩
          have hz13 : w10.heap.size ≤ w13.heap.size := BK13.out.size
          have KW13 : Hid (Keep (fun b => b < w1.heap.size ∧ b ≠ p) wr w13) := Lib.hid ((KW10.out.mono (fun b _ (h : b < w1.heap.size ∧ b ≠ p) => ⟨by have := h.1; omega, h.2⟩)).trans BK13.out (fun b _ h => h.1))
          obtain ⟨-, A13, c13, rfl, hA13, hc13⟩ : v13 = v13 ∧ ∃ A c, v13 = .slice A acc'.length c ∧ acc'.length ≤ c ∧ c ≤ maxLen := ⟨rfl, GX13.out.slice⟩
          refine hK.out _ _ (fun _ => ⟨b13, n13⟩) ?_
          clear hK K own13 gr13 b10 n10 b12 n12
          try simp only [Act.put, List.setIfInBounds_toArray]
          have hHeld : w13.cell? ⟨bx, 2, none⟩ = some (.slice pA acc.length pc) ∧ w13.cell? ⟨nb, acc.length, none⟩ = some (.string nmi) := ⟨b13, n13⟩
          refine wpSk_take (i := 14) (v := ?hv14_12) rfl (by kernel_rfl) (fun _ _ _ h => h) (Or.inl ⟨by rfl, ?hy14_12⟩) (by assumption) ?hr14_12
          case hy14_12 => (intro wS hSw; (try dsimp only at hSw); go_simp; (try with_reducible rfl))
          try simp only [Act.put]
          clear hHeld
          have f13 : w13.frozen? ⟨bx, 2, none⟩ = false := (cells3 BX13.out).2.2.2
          refine wpSk_step (i := 15) (by kernel_rfl) rfl (fun K hK => ?_)
          go_simp
          refine hK.out _ _ (fun h => absurd h (by decide)) ?_
          clear hK K
          refine wpSk_done (by kernel_rfl) ?_ _
          have HNEW : Hid (prsD code ns (N - acc'.length) acc' k5 = FIN) := Lib.hid (by
            have hq := PR.out
            have hal := HAL.out
            rw [show N - acc.length = (N - acc'.length) + 1 by omega, prsD_more HBD.out] at hq
            have hns : ns[acc.length]?.getD ByteArray.empty = nmi := by rw [HNL.out.2, List.getElem?_take, if_pos hlt, HNMI.out, List.getElem?_eq_getElem (by exact hi4)]; rfl
            rw [hns, ← HACC.out] at hq
            exact hq)
          go_wp2_with fail
          go_roundw
          case rel =>
            refine ⟨acc', k5, by have := HAL.out; omega, by rw [HAL.out]; go_num, Lib.hid ⟨_, ?_, GX13.out.keep PrG.keepP (Keep.setCell (S := fun b => b ≠ bx) (p := ⟨bx, 2, none⟩) (Keep.refl _ _) (fun h => h rfl) _) (fun b hb _ _ => by omega), K13.out.setNew (a := ⟨bx, 2, none⟩) (by show bx ≠ p; omega) _, ((KP.out.trans KW13.out (fun b hb h => ⟨h.1, h.2.1⟩)).setCell (p := ⟨bx, 2, none⟩) (fun h => h.2.2 rfl) _), HNEW.out⟩⟩
            rw [heap_setCell_same w13 bx 2 _ _ _ BX13.out]; rfl
          case measure => have := HAL.out; simp [intOf]; omega
end Go.Proofs.Ytadcebdhgocmhaa
