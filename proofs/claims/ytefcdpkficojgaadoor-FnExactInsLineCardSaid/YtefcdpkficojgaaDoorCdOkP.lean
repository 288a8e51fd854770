/- What it is that a code is right, in plain words of lists. -/
import Derived.Test.YtefcdpkficojgaaDoorCdIs
import Derived.Test.YtefcdpkficojgaaDoorCdPlain
import Derived.Test.YtefcdpkficojgaaDoorNamesB
import Derived.Test.YtefcdpkficojgaaDoorTwiceS
import Derived.Test.YtefcdpkficojgaaDoorReadsLaw
import Derived.Test.YtefcdpkficojgaaDoorZeroTm
import Derived.Test.YtefcdpkficojgaaDoorLater
namespace Go.Proofs.YtefcdpkficojgaaDoor
open Go.RowKit
set_option linter.unusedVariables false

def mainS : ByteArray := ⟨#[109, 97, 105, 110]⟩
def namB (p : Cd) : Bool := namesB 6 p.globals && namesB 6 p.locks && namesB 8 p.procs && !twiceS p.globals && !twiceS p.locks && !twiceS p.procs && hasS p.procs mainS
theorem namB_1 {p : Cd} (h : namesB 6 p.globals = false) : namB p = false := by unfold namB; rw [h]; simp
theorem namB_2 {p : Cd} (h : namesB 6 p.locks = false) : namB p = false := by unfold namB; rw [h]; simp
theorem namB_3 {p : Cd} (h : namesB 8 p.procs = false) : namB p = false := by unfold namB; rw [h]; simp
theorem namB_4 {p : Cd} (h : twiceS p.globals = true) : namB p = false := by unfold namB; rw [h]; simp
theorem namB_5 {p : Cd} (h : twiceS p.locks = true) : namB p = false := by unfold namB; rw [h]; simp
theorem namB_6 {p : Cd} (h : twiceS p.procs = true) : namB p = false := by unfold namB; rw [h]; simp
theorem namB_7 {p : Cd} (h : hasS p.procs mainS = false) : namB p = false := by unfold namB; rw [h]; simp
theorem namB_8 {p : Cd} (h1 : namesB 6 p.globals = true) (h2 : namesB 6 p.locks = true) (h3 : namesB 8 p.procs = true) (h4 : twiceS p.globals = false) (h5 : twiceS p.locks = false) (h6 : twiceS p.procs = false) : namB p = hasS p.procs mainS := by unfold namB; rw [h1, h2, h3, h4, h5, h6]; rfl
theorem has_pos {ss : List ByteArray} {x : ByteArray} (h : hasS ss x = true) : 0 < ss.length := by
  have := has_iff.1 h
  exact List.length_pos_of_mem this
theorem namB_pos {p : Cd} (h : namB p = true) : 0 < p.procs.length := by
  refine has_pos (x := mainS) ?_
  unfold namB at h
  simp only [Bool.and_eq_true] at h
  exact h.2
def opsC (p : Cd) : List Int := p.ins.map Ic.op
theorem opsC_len (p : Cd) : (opsC p).length = p.ins.length := by simp [opsC]
theorem opsC_get (p : Cd) {j : Nat} (h : j < p.ins.length) (x : Int) : (opsC p).getD j x = p.ins[j].op := by
  rw [getD_get (by rw [opsC_len]; exact h)]; simp [opsC]
structure HeadOk (p : Cd) : Prop where
  nam : namB p = true
  same : p.entry.length = p.procs.length
  small : p.ins.length ≤ 1500
  ent : EntOk p.entry (opsC p)
def RiseAt (p : Cd) (i : Nat) : Prop := (i = 0 → p.entry.getD 0 1 = 0) ∧ (0 < i → p.entry.getD (i - 1) 0 < p.entry.getD i 0) ∧ p.entry.getD i 0 < (p.ins.length : Int)
def EndAt (p : Cd) (j : Nat) : Prop := ((opsC p).getD j 0 == 9) = (endE p.entry p.ins.length (procE p.entry j p.entry.length) == (j : Int))
theorem head_rise {p : Cd} (h : HeadOk p) {i : Nat} (hi : i < p.entry.length) : RiseAt p i := by
  have := (entS_of h.ent).rise i hi
  rw [opsC_len] at this
  exact this
theorem head_ends {p : Cd} (h : HeadOk p) {j : Nat} (hj : j < p.ins.length) : EndAt p j := by
  have := (entS_of h.ent).ends j (by rw [opsC_len]; exact hj)
  rw [opsC_len] at this
  exact this
theorem head_mk {p : Cd} (h1 : namB p = true) (h2 : p.entry.length = p.procs.length) (h3 : p.ins.length ≤ 1500) (hA : ∀ i, i < p.entry.length → RiseAt p i) (hB : ∀ j, j < p.ins.length → EndAt p j) : HeadOk p := by
  refine ⟨h1, h2, h3, entS_ok (by rw [h2]; exact namB_pos h1) ⟨fun i hi => ?_, fun j hj => ?_⟩⟩
  · rw [opsC_len]; exact hA i hi
  · have hj' : j < p.ins.length := by rw [← opsC_len]; exact hj
    rw [opsC_len]; exact hB j hj'
theorem rise_nn {p : Cd} (hA : ∀ i, i < p.entry.length → RiseAt p i) : ∀ i, i < p.entry.length → 0 ≤ p.entry.getD i 0 := by
  intro i
  induction i with
  | zero => intro hi; rw [getD_any hi 0 1, (hA 0 hi).1 rfl]; exact Int.le_refl _
  | succ i ih =>
    intro hi
    have h1 := ih (by omega)
    have h2 := (hA (i + 1) hi).2.1 (by omega)
    rw [show i + 1 - 1 = i from by omega] at h2
    omega
/-- the last place that an argument may name -/
def mostC (p : Cd) (op : Int) : Int := if op = 1 then (p.globals.length : Int) - 1 else if op = 6 ∨ op = 7 then (p.locks.length : Int) - 1 else if op = 4 ∨ op = 5 then (p.procs.length : Int) - 1 else 0
noncomputable def trmB (p : Cd) (x : Ic) : Bool := if x.op = 1 ∨ x.op = 2 then okT 6 x.term && (readsR x.term).all (hasS p.globals) else sameB x.term zeroTm
def tgtB (x : Ic) (b l : Int) : Bool := if x.op = 2 ∨ x.op = 3 then inB x.to b l else (x.to == 0)
/-- an instruction of a procedure from b to l is right -/
noncomputable def insB (p : Cd) (x : Ic) (b l : Int) : Bool := inB x.op 1 9 && inB x.arg 0 (mostC p x.op) && trmB p x && tgtB x b l
theorem insB_op {p : Cd} {x : Ic} {b l : Int} (h : inB x.op 1 9 = false) : insB p x b l = false := by unfold insB; rw [h]; rfl
theorem insB_arg {p : Cd} {x : Ic} {b l : Int} (h : inB x.arg 0 (mostC p x.op) = false) : insB p x b l = false := by unfold insB; rw [h]; simp
theorem insB_trm {p : Cd} {x : Ic} {b l : Int} (h : trmB p x = false) : insB p x b l = false := by unfold insB; rw [h]; simp
theorem insB_fin {p : Cd} {x : Ic} {b l : Int} (h1 : inB x.op 1 9 = true) (h2 : inB x.arg 0 (mostC p x.op) = true) (h3 : trmB p x = true) : insB p x b l = tgtB x b l := by unfold insB; rw [h1, h2, h3]; rfl
theorem trmB_bad {p : Cd} {x : Ic} (h : x.op = 1 ∨ x.op = 2) (h2 : okT 6 x.term = false) : trmB p x = false := by unfold trmB; rw [if_pos h, h2]; rfl
theorem trmB_miss {p : Cd} {x : Ic} (h : x.op = 1 ∨ x.op = 2) {k : Nat} (hk : k < (readsR x.term).length) (h2 : hasS p.globals (readsR x.term)[k] = false) : trmB p x = false := by
  unfold trmB; rw [if_pos h, all_not hk h2, Bool.and_false]
theorem trmB_yes {p : Cd} {x : Ic} (h : x.op = 1 ∨ x.op = 2) (h1 : okT 6 x.term = true) (h2 : (readsR x.term).all (hasS p.globals) = true) : trmB p x = true := by unfold trmB; rw [if_pos h, h1, h2]; rfl
theorem trmB_zero {p : Cd} {x : Ic} (h : ¬ (x.op = 1 ∨ x.op = 2)) : trmB p x = sameB x.term zeroTm := by unfold trmB; rw [if_neg h]
theorem tgtB_jump {x : Ic} {b l : Int} (h : x.op = 2 ∨ x.op = 3) : tgtB x b l = inB x.to b l := by unfold tgtB; rw [if_pos h]
theorem tgtB_none {x : Ic} {b l : Int} (h : ¬ (x.op = 2 ∨ x.op = 3)) : tgtB x b l = (x.to == 0) := by unfold tgtB; rw [if_neg h]
/-- where the procedure of a place begins and ends -/
def bE (p : Cd) (j : Nat) : Int := p.entry.getD (procE p.entry j p.entry.length).toNat 0
def lE (p : Cd) (j : Nat) : Int := endE p.entry p.ins.length (procE p.entry j p.entry.length)
structure CodOk (p : Cd) : Prop where
  head : HeadOk p
  ins : ∀ j (h : j < p.ins.length), insB p p.ins[j] (bE p j) (lE p j) = true
/-- the program's way: procedure by procedure -/
theorem codOk_of {p : Cd} (h : HeadOk p) (hi : ∀ i, i < p.entry.length → ∀ j (hj : j < p.ins.length), p.entry.getD i 0 ≤ (j : Int) → (j : Int) < finE p.entry p.ins.length i → insB p p.ins[j] (p.entry.getD i 0) (finE p.entry p.ins.length i - 1) = true) : CodOk p := by
  refine ⟨h, fun j hj => ?_⟩
  have rise := h.ent.rise
  rw [opsC_len] at rise
  obtain ⟨i, h0, h1, h2⟩ := proc_ex h.ent.zero (n := p.ins.length) (a := (j : Int)) (by omega) (by omega)
  have e := procE_in rise h0 h1 h2
  unfold bE lE
  rw [e, endE_fin, Int.toNat_natCast]
  exact hi i h0 j hj h1 h2
theorem codOk_in {p : Cd} (h : CodOk p) {i j : Nat} (hi : i < p.entry.length) (hj : j < p.ins.length) (h1 : p.entry.getD i 0 ≤ (j : Int)) (h2 : (j : Int) < finE p.entry p.ins.length i) : insB p p.ins[j] (p.entry.getD i 0) (finE p.entry p.ins.length i - 1) = true := by
  have rise := h.head.ent.rise
  rw [opsC_len] at rise
  have := h.ins j hj
  unfold bE lE at this
  rw [procE_in rise hi h1 h2, endE_fin, Int.toNat_natCast] at this
  exact this
/-- five cells of a code's variable -/
def Box5 (w : World) (g : Nat) (x : V5) (p : Cd) : Prop := w.cell? ⟨g, 0, none⟩ = some (.slice x.gA p.globals.length x.gc) ∧ w.cell? ⟨g, 1, none⟩ = some (.slice x.lA p.locks.length x.lc) ∧ w.cell? ⟨g, 2, none⟩ = some (.slice x.pA p.procs.length x.pc) ∧ w.cell? ⟨g, 3, none⟩ = some (.slice x.eA p.entry.length x.ec) ∧ w.cell? ⟨g, 4, none⟩ = some (.slice x.iA p.ins.length x.ic)
theorem Box5.below {w w' : World} {g : Nat} {x : V5} {p : Cd} (h : Box5 w g x p) (hb : Below w.heap.size w w') : Box5 w' g x p := ⟨cell_keep hb h.1, cell_keep hb h.2.1, cell_keep hb h.2.2.1, cell_keep hb h.2.2.2.1, cell_keep hb h.2.2.2.2⟩
theorem Box5.new (w : World) (x : V5) (p : Cd) (e : TypeId) : Box5 (w.alloc (.cells #[.slice x.gA p.globals.length x.gc, .slice x.lA p.locks.length x.lc, .slice x.pA p.procs.length x.pc, .slice x.eA p.entry.length x.ec, .slice x.iA p.ins.length x.ic] e)) w.heap.size x p := by
  refine ⟨?_, ?_, ?_, ?_, ?_⟩ <;> rw [World.cell?_alloc_new] <;> rfl
/-- seven cells of an instruction's variable -/
theorem Cells7.below {w w' : World} {b o : Nat} {x : V7} (h : Cells7 w b o x) (hb : Below w.heap.size w w') : Cells7 w' b o x := ⟨cell_keep hb h.1, cell_keep hb h.2.1, cell_keep hb h.2.2.1, cell_keep hb h.2.2.2.1, cell_keep hb h.2.2.2.2.1, cell_keep hb h.2.2.2.2.2.1, cell_keep hb h.2.2.2.2.2.2⟩
theorem Cells7.new (w : World) (x : V7) (e : TypeId) : Cells7 (w.alloc (.cells #[.int .i64 x.op, .int .i64 x.arg, .int .i64 x.k, .int .i64 x.n, .string x.s, .slice x.A x.m x.c, .int .i64 x.to] e)) w.heap.size 0 x := by
  refine ⟨?_, ?_, ?_, ?_, ?_, ?_, ?_⟩ <;> rw [World.cell?_alloc_new] <;> rfl
end Go.Proofs.YtefcdpkficojgaaDoor
