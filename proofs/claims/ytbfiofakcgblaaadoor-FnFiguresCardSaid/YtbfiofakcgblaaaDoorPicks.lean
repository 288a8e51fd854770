/- The parameter that is a code of bytes, and picks from a list by a draw. -/
import Derived.Test.YtbfiofakcgblaaaDoorDraw
import Derived.Test.YtbfiofakcgblaaaDoorStrs
import Derived.Test.YtbfiofakcgblaaaDoorArcs
namespace Go.Proofs.YtbfiofakcgblaaaDoor
open Go.RowKit
set_option linter.unusedVariables false

set_option maxRecDepth 100000 in
theorem open_code {H : Type} {enc : TypeId × Value → H} {w : World} {r : Reach} {b0 base : Nat} {spare : Nat → Bool} {held : Bool} {v : Value} {d : DataW H} {p : List MemPlace} (hv : Value.okWide Tryd.prog w r b0 27 v) (h : DataW.Trod enc Tryd.prog w base spare held 27 v d p) :
    ∃ code : List UInt8, ∃ A c, v = .slice A code.length c ∧ code.length ≤ c ∧ c ≤ maxLen ∧ Rd w 1 A code.length (bv code) := by
  obtain ⟨a0, len, cap, rfl⟩ := Go.WideShapes.okWide_slice Tryd.underlying27 hv
  obtain ⟨fuel, hf⟩ := h
  obtain ⟨u, l, hu, hr⟩ := open_cells (R := fun cs (z : UInt8) => cs = [Value.int .u8 (z.toNat : Int)] ∧ True) (by decide) Tryd.underlying27 (by kernel_rfl : Tryd.prog.cellsOf 5 = 1) hf (fun n cs y _ hy => by
    obtain ⟨z, e, _, wf⟩ := DataW.trod_int Tryd.underlying5 hy
    have hz : 0 ≤ z ∧ z < 256 := by
      simp [Lit.wf, IntKind.min, IntKind.max, IntKind.signed, IntKind.bits] at wf
      omega
    refine ⟨UInt8.ofNat z.toNat, ?_, trivial⟩
    rw [e]
    have : ((UInt8.ofNat z.toNat).toNat : Int) = z := by simp; omega
    rw [this])
  simp only [Value.cells, List.cons.injEq, and_true] at hu
  subst hu
  obtain ⟨A, c, e, h1, h2, rd⟩ := hr.rows.1
  refine ⟨l, A, c, e, h1, h2, ?_⟩
  have : bv l = l.flatMap (fun z => [Value.int .u8 (z.toNat : Int)]) := by
    unfold bv
    rw [List.map_eq_flatMap]
  rw [this]; exact rd
theorem big_yes (A : Option Addr) (l c : Nat) (w : World) (h : 1048576 < l) : Calls Tryd.prog 10 #[.slice A l c] w fun e w' => e = .returned (.bool true) ∧ w = w' := by
  have h1 : (1048576 : Int) < (l : Int) := by omega
  go_enter Tryd.func10, Tryd.ntmps10
  go_wp2_with fail
  go_ret
  exact ⟨rfl, rfl⟩
theorem big_no (A : Option Addr) (l c : Nat) (w : World) (h : ¬ 1048576 < l) : Calls Tryd.prog 10 #[.slice A l c] w fun e w' => e = .returned (.bool false) ∧ w = w' := by
  have h1 : ¬ (1048576 : Int) < (l : Int) := by omega
  go_enter Tryd.func10, Tryd.ntmps10
  go_wp2_with fail
  go_ret
  exact ⟨rfl, rfl⟩
/-- what keeps all but the cursor, with what is written in blocks made since -/
theorem Keep.fresh {p : Nat} {w w' : World} (h : Keep (fun b => b ≠ p) w w') : Keep (fun b => b ≠ p ∧ b < w.heap.size) w w' := ⟨h.os, h.tape, h.output, h.size, fun k hk hS => h.block k hk hS.1⟩
theorem Keep.old {p n : Nat} {w w' : World} (h : Keep (fun b => b ≠ p ∧ b < n) w w') (hn : w.heap.size ≤ n) : Keep (fun b => b ≠ p) w w' := ⟨h.os, h.tape, h.output, h.size, fun k hk hS => h.block k hk ⟨hS, by omega⟩⟩
theorem Keep.setNew {p n : Nat} {w w' : World} (h : Keep (fun b => b ≠ p ∧ b < n) w w') {a : Addr} (ha : n ≤ a.block) (u : Value) : Keep (fun b => b ≠ p ∧ b < n) w (w'.setCell a u) := h.setCell (fun hS => by have := hS.2; omega) u
theorem CurAt.setNew {w : World} {p : Nat} {A : Option Addr} {c : Nat} {code : List UInt8} {k : Cur} (h : CurAt w p A c code k) {a : Addr} (ha : a.block ≠ p) (u : Value) : CurAt (w.setCell a u) p A c code k := ⟨(Below.heap_setCell w a u p (fun e => ha e.symm)).trans h.at', h.le⟩
theorem own_cur' {w0 w w' : World} {e : TypeId} {sz n : Nat} {v : Value} {xs : List Value} {p : Nat} {A : Option Addr} {c : Nat} {code : List UInt8} {k : Cur} (h : Own w0 w e sz v n xs) (hc : CurAt w p A c code k) (hk : Keep (fun b => b ≠ p) w w') (he : 42 ≠ e) (hp : w0.heap.size ≤ p) : Own w0 w' e sz v n xs := by
  refine ⟨⟨h.1.1, ?_⟩, h.2.trans (hk.below h.2.size (fun b hb => by omega))⟩
  rcases h.1.2 with h' | ⟨g, cap, cur, rfl, hg, hh, r⟩
  · exact .inl h'
  · refine .inr ⟨g, cap, cur, rfl, hg, (hk.block g (lt_of_block hh) ?_).trans hh, r⟩
    intro e1
    subst e1
    rw [hc.at'] at hh
    injection hh with hh
    injection hh with _ hh
    exact he hh
def pickI (zs : List Int) (x : Int) : Int := zs[x.toNat]?.getD 0
def pickS (ss : List ByteArray) (x : Int) : ByteArray := ss[x.toNat]?.getD ByteArray.empty
theorem pickI_mem {zs : List Int} {x : Int} (h : x.toNat < zs.length) : pickI zs x ∈ zs := by
  unfold pickI
  rw [List.getElem?_eq_getElem h]
  exact List.getElem_mem h
theorem pickS_mem {ss : List ByteArray} {x : Int} (h : x.toNat < ss.length) : pickS ss x ∈ ss := by
  unfold pickS
  rw [List.getElem?_eq_getElem h]
  exact List.getElem_mem h
end Go.Proofs.YtbfiofakcgblaaaDoor
