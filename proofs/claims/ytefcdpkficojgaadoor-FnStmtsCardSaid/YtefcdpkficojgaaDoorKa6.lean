/- Several texts in one: Picks. -/
import Derived.Test.YtefcdpkficojgaaDoorKa3
import Derived.Test.YtefcdpkficojgaaDoorKa4
import Derived.Test.YtefcdpkficojgaaDoorKa5
namespace Go.Proofs.YtefcdpkficojgaaDoor
open Go.RowKit
set_option linter.unusedVariables false


set_option maxRecDepth 100000 in
theorem open_code {H : Type} {enc : TypeId × Value → H} {w : World} {r : Reach} {b0 base : Nat} {spare : Nat → Bool} {held : Bool} {v : Value} {d : DataW H} {p : List MemPlace} (hv : Value.okWide Tryd.prog w r b0 40 v) (h : DataW.Trod enc Tryd.prog w base spare held 40 v d p) :
    ∃ code : List UInt8, ∃ A c, v = .slice A code.length c ∧ code.length ≤ c ∧ c ≤ maxLen ∧ Rd w 1 A code.length (bv code) := by
  obtain ⟨a0, len, cap, rfl⟩ := Go.WideShapes.okWide_slice Tryd.underlying40 hv
  obtain ⟨fuel, hf⟩ := h
  obtain ⟨u, l, hu, hr⟩ := open_cells (R := fun cs (z : UInt8) => cs = [Value.int .u8 (z.toNat : Int)] ∧ True) (by decide) Tryd.underlying40 (by kernel_rfl : Tryd.prog.cellsOf 5 = 1) hf (fun n cs y _ hy => by
    obtain ⟨z, e, _, wf⟩ := DataW.trod_int Tryd.underlying5 hy
    have hz : 0 ≤ z ∧ z < 256 := by
      simp [Lit.wf, IntKind.min, IntKind.max, IntKind.signed, IntKind.bits] at wf
      omega
    refine ⟨UInt8.ofNat z.toNat, ?_, trivial⟩
    rw [e]
    have : ((UInt8.ofNat z.toNat).toNat : Int) = z := by simp; omega
    rw [this])
  simp only [Value.cells, List.cons.injEq, and_true] at hu
  subst hu
  obtain ⟨A, c, e, h1, h2, rd⟩ := hr.rows.1
  refine ⟨l, A, c, e, h1, h2, ?_⟩
  have : bv l = l.flatMap (fun z => [Value.int .u8 (z.toNat : Int)]) := by
    unfold bv
    rw [List.map_eq_flatMap]
  rw [this]; exact rd
theorem big_yes (A : Option Addr) (l c : Nat) (w : World) (h : 1048576 < l) : Calls Tryd.prog 22 #[.slice A l c] w fun e w' => e = .returned (.bool true) ∧ w = w' := by
  have h1 : (1048576 : Int) < (l : Int) := by omega
  go_enter Tryd.func22, Tryd.ntmps22
  go_wp2_with fail
  go_ret
  exact ⟨rfl, rfl⟩
theorem big_no (A : Option Addr) (l c : Nat) (w : World) (h : ¬ 1048576 < l) : Calls Tryd.prog 22 #[.slice A l c] w fun e w' => e = .returned (.bool false) ∧ w = w' := by
  have h1 : ¬ (1048576 : Int) < (l : Int) := by omega
  go_enter Tryd.func22, Tryd.ntmps22
  go_wp2_with fail
  go_ret
  exact ⟨rfl, rfl⟩
/-- what keeps all but the cursor, with what is written in blocks made since -/
theorem Keep.fresh {p : Nat} {w w' : World} (h : Keep (fun b => b ≠ p) w w') : Keep (fun b => b ≠ p ∧ b < w.heap.size) w w' := ⟨h.os, h.tape, h.output, h.size, fun k hk hS => h.block k hk hS.1⟩
theorem Keep.old {p n : Nat} {w w' : World} (h : Keep (fun b => b ≠ p ∧ b < n) w w') (hn : w.heap.size ≤ n) : Keep (fun b => b ≠ p) w w' := ⟨h.os, h.tape, h.output, h.size, fun k hk hS => h.block k hk ⟨hS, by omega⟩⟩
theorem Keep.setNew {p n : Nat} {w w' : World} (h : Keep (fun b => b ≠ p ∧ b < n) w w') {a : Addr} (ha : n ≤ a.block) (u : Value) : Keep (fun b => b ≠ p ∧ b < n) w (w'.setCell a u) := h.setCell (fun hS => by have := hS.2; omega) u
theorem CurAt.setNew {w : World} {p : Nat} {A : Option Addr} {c : Nat} {code : List UInt8} {k : Cur} (h : CurAt w p A c code k) {a : Addr} (ha : a.block ≠ p) (u : Value) : CurAt (w.setCell a u) p A c code k := ⟨(Below.heap_setCell w a u p (fun e => ha e.symm)).trans h.at', h.le⟩
def pickI (zs : List Int) (x : Int) : Int := zs[x.toNat]?.getD 0
def pickS (ss : List ByteArray) (x : Int) : ByteArray := ss[x.toNat]?.getD ByteArray.empty
theorem pickI_mem {zs : List Int} {x : Int} (h : x.toNat < zs.length) : pickI zs x ∈ zs := by
  unfold pickI
  rw [List.getElem?_eq_getElem h]
  exact List.getElem_mem h
theorem pickS_mem {ss : List ByteArray} {x : Int} (h : x.toNat < ss.length) : pickS ss x ∈ ss := by
  unfold pickS
  rw [List.getElem?_eq_getElem h]
  exact List.getElem_mem h
set_option maxHeartbeats 800000 in
theorem spec_l01PickInt (zs : List Int) (hz : 0 < zs.length) (hz2 : zs.length ≤ 256) (b p : Nat) (hbp : b ≠ p) (A : Option Addr) (c : Nat) (code : List UInt8) (k : Cur) (w : World) (rz : Rd w 1 (some ⟨b, 0, none⟩) zs.length (zs.map (Value.int .i64))) (rd : Rd w 1 A code.length (bv code)) (hl : code.length ≤ 1048576) (hc : c ≤ maxLen) (hk : CurAt w p A c code k) :
    Calls Tryd.prog 166 #[.pointer (some ⟨p, 0, none⟩), .slice (some ⟨b, 0, none⟩) zs.length zs.length] w fun e w' => e = .returned (.int .i64 (pickI zs (belowD code (zs.length : Int) k).1)) ∧ CurAt w' p A c code (belowD code (zs.length : Int) k).2 ∧ Keep (fun b => b ≠ p) w w' := by
  have RD := Lib.hid rd
  have HK := Lib.hid hk
  have RZ := Lib.hid rz
  have hbd := belowD_bd code (n := (zs.length : Int)) (by omega) k
  clear rd hk rz
  go_enter Tryd.func166, Tryd.ntmps166
  go_wp2_with fail
  refine (spec_l01Below (zs.length : Int) p A c code k _ RD.out hl hc HK.out (by omega)).mono ?_
  rintro e w1 ⟨rfl, k1, kp1⟩
  have K1 := Lib.hid k1
  have P1 := Lib.hid kp1
  clear k1 kp1
  generalize hx : belowD code (zs.length : Int) k = y at *
  obtain ⟨x, k'⟩ := y
  have HX := Lib.hid hx
  clear hx
  simp only at hbd K1
  obtain ⟨h0, h1⟩ := hbd
  have hlt : x.toNat < zs.length := by omega
  obtain ⟨b', off', e', hcell⟩ := RZ.out.2 hz
  injection e' with e'
  injection e' with e1 e2
  subst e1 e2
  have hcl := P1.out.cellEq (p := ⟨b, 0 + x.toNat, none⟩) hbp (hcell x.toNat (.int .i64 zs[x.toNat]) (by simp [hlt]))
  have hpk : pickI zs x = zs[x.toNat] := by unfold pickI; rw [List.getElem?_eq_getElem hlt]; rfl
  have HP := Lib.hid hpk
  rw [Nat.zero_add] at hcl
  clear hcell hpk
  go_wp2_with fail
  go_ret
  rw [HX.out]
  exact ⟨by rw [HP.out]; rfl, K1.out, P1.out⟩
set_option maxHeartbeats 800000 in
theorem spec_l01Pick (ss : List ByteArray) (hz : 0 < ss.length) (hz2 : ss.length ≤ 256) (b p : Nat) (hbp : b ≠ p) (A : Option Addr) (c : Nat) (code : List UInt8) (k : Cur) (w : World) (rz : Rd w 1 (some ⟨b, 0, none⟩) ss.length (ss.map Value.string)) (rd : Rd w 1 A code.length (bv code)) (hl : code.length ≤ 1048576) (hc : c ≤ maxLen) (hk : CurAt w p A c code k) :
    Calls Tryd.prog 167 #[.pointer (some ⟨p, 0, none⟩), .slice (some ⟨b, 0, none⟩) ss.length ss.length] w fun e w' => e = .returned (.string (pickS ss (belowD code (ss.length : Int) k).1)) ∧ CurAt w' p A c code (belowD code (ss.length : Int) k).2 ∧ Keep (fun b => b ≠ p) w w' := by
  have RD := Lib.hid rd
  have HK := Lib.hid hk
  have RZ := Lib.hid rz
  have hbd := belowD_bd code (n := (ss.length : Int)) (by omega) k
  clear rd hk rz
  go_enter Tryd.func167, Tryd.ntmps167
  go_wp2_with fail
  refine (spec_l01Below (ss.length : Int) p A c code k _ RD.out hl hc HK.out (by omega)).mono ?_
  rintro e w1 ⟨rfl, k1, kp1⟩
  have K1 := Lib.hid k1
  have P1 := Lib.hid kp1
  clear k1 kp1
  generalize hx : belowD code (ss.length : Int) k = y at *
  obtain ⟨x, k'⟩ := y
  have HX := Lib.hid hx
  clear hx
  simp only at hbd K1
  obtain ⟨h0, h1⟩ := hbd
  have hlt : x.toNat < ss.length := by omega
  obtain ⟨b', off', e', hcell⟩ := RZ.out.2 hz
  injection e' with e'
  injection e' with e1 e2
  subst e1 e2
  have hcl := P1.out.cellEq (p := ⟨b, 0 + x.toNat, none⟩) hbp (hcell x.toNat (.string ss[x.toNat]) (by simp [hlt]))
  have hpk : pickS ss x = ss[x.toNat] := by unfold pickS; rw [List.getElem?_eq_getElem hlt]; rfl
  have HP := Lib.hid hpk
  rw [Nat.zero_add] at hcl
  clear hcell hpk
  go_wp2_with fail
  go_ret
  rw [HX.out]
  exact ⟨by rw [HP.out]; rfl, K1.out, P1.out⟩
end Go.Proofs.YtefcdpkficojgaaDoor
