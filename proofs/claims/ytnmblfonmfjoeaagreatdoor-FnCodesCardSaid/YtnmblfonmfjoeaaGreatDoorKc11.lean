/- Lemmas for the row. -/
import Derived.Test.YtnmblfonmfjoeaaGreatDoorKc10
namespace Go.Proofs.YtnmblfonmfjoeaaGreatDoor
open Go.RowKit
set_option linter.unusedVariables false
theorem box4 {w : World} {g : Nat} {a b c x : Value} {T : TypeId} (h : w.heap[g]? = some (.cells #[a, b, c, x] T (0, 0))) : w.cell? ⟨g, 0, none⟩ = some a ∧ w.cell? ⟨g, 1, none⟩ = some b ∧ w.cell? ⟨g, 2, none⟩ = some c ∧ w.cell? ⟨g, 3, none⟩ = some x ∧ w.frozen? ⟨g, 3, none⟩ = false :=
 ⟨by rw [Lib.cell_of_heap h]; rfl, by rw [Lib.cell_of_heap h]; rfl, by rw [Lib.cell_of_heap h]; rfl, by rw [Lib.cell_of_heap h]; rfl, Lib.frozen_of_heap h 3⟩
theorem cells7 {w : World} {g : Nat} {a0 a1 a2 a3 a4 a5 a6 : Value} {T : TypeId} (h : w.heap[g]? = some (.cells #[a0, a1, a2, a3, a4, a5, a6] T (0, 0))) : w.cell? ⟨g, 0, none⟩ = some a0 ∧ w.cell? ⟨g, 1, none⟩ = some a1 ∧ w.cell? ⟨g, 2, none⟩ = some a2 ∧ w.cell? ⟨g, 3, none⟩ = some a3 ∧ w.cell? ⟨g, 4, none⟩ = some a4 ∧ w.cell? ⟨g, 5, none⟩ = some a5 ∧ w.cell? ⟨g, 6, none⟩ = some a6 := by
 refine ⟨?_, ?_, ?_, ?_, ?_, ?_, ?_⟩ <;> (rw [Lib.cell_of_heap h]; rfl)
theorem s4_3e {w : World} {g : Nat} {a b c x : Value} {T : TypeId} (h : w.heap[g]? = some (.cells #[a, b, c, x] T (0, 0))) (u : Value) : (w.setCell ⟨g, 3, none⟩ u).heap[g]? = some (.cells #[a, b, c, u] T (0, 0)) := by simp [World.setCell, Array.getElem?_modify, h]
set_option maxHeartbeats 3200000 in
set_option maxRecDepth 100000 in
theorem spec_l08Put (w0 w : World) (eb : Nat) (gA lA pA A A2 : Option Addr) (gn gc ln lc pn pc n c q2 c2 : Nat) (op arg k2 m2 tg : Int) (s2 : ByteArray) (cur : List Ic) (i : Ic) (base : Nat) (Z H : Nat → Prop)
  (hb : Below w0.heap.size w0 w) (hbox : w0.heap[eb]? = some (.cells #[.slice gA gn gc, .slice lA ln lc, .slice pA pn pc, .slice A n c] 56 (0, 0))) (hgr : GrwI base Z w0 (.slice A n c) cur) (heb : eb < base) (hbase : base ≤ w0.heap.size) (hZ : ∀ b, Z b → b < w0.heap.size) (hi : IcP w H [.int .i64 op, .int .i64 arg, .int .i64 k2, .int .i64 m2, .string s2, .slice A2 q2 c2, .int .i64 tg] i) (hH : ∀ b, H b → w0.heap.size ≤ b ∧ b < w.heap.size) (hn : n ≤ 100000) :
  Calls Tryz.prog 22 #[.pointer (some ⟨eb, 0, none⟩), .agg #[.int .i64 op, .int .i64 arg, .int .i64 k2, .int .i64 m2, .string s2, .slice A2 q2 c2, .int .i64 tg]] w fun e w' => e = .returned (.int .i64 (n : Int)) ∧ ∃ A' n' c', w'.heap[eb]? = some (.cells #[.slice gA gn gc, .slice lA ln lc, .slice pA pn pc, .slice A' n' c'] 56 (0, 0)) ∧ n' = n + 1 ∧ GrwI base Z w' (.slice A' n' c') (cur ++ [i]) ∧ Keep (Fz base Z eb) w0 w' := by
 have HB := qh hb
 have HI := qh hi
 have HH := qh hH
 have HZ := qh hZ
 have GR := qh hgr
 have KB := qh ((hb.block eb (by omega)).trans hbox)
 have HL : Hid (cur.length = n) := qh (by obtain ⟨_, _, e, _, _⟩ := hgr.slice; injection e with _ e; exact e.symm)
 have hw0 := hb.size
 clear hb hi hH hZ hgr hbox
 have BX : Hid (Below w.heap.size w (w.alloc (.cells #[.int .i64 op, .int .i64 arg, .int .i64 k2, .int .i64 m2, .string s2, .slice A2 q2 c2, .int .i64 tg] 45))) := qh (Below.alloc (Below.refl _ _) (Nat.le_refl _) _)
 have VX : Hid ((w.alloc (.cells #[.int .i64 op, .int .i64 arg, .int .i64 k2, .int .i64 m2, .string s2, .slice A2 q2 c2, .int .i64 tg] 45)).heap[w.heap.size]? = some (.cells #[.int .i64 op, .int .i64 arg, .int .i64 k2, .int .i64 m2, .string s2, .slice A2 q2 c2, .int .i64 tg] 45 (0, 0))) := qh (heap_alloc_new _ _)
 have KX := qh ((BX.out.block eb (lt_of_block KB.out)).trans KB.out)
 have hzx : w0.heap.size ≤ (w.alloc (.cells #[.int .i64 op, .int .i64 arg, .int .i64 k2, .int .i64 m2, .string s2, .slice A2 q2 c2, .int .i64 tg] 45)).heap.size := by simp; omega
 go_enter Tryz.func22, Tryz.ntmps22
 go_wp2_with fail
 obtain ⟨u, hu⟩ : ∃ u, w.alloc (.cells #[.int .i64 op, .int .i64 arg, .int .i64 k2, .int .i64 m2, .string s2, .slice A2 q2 c2, .int .i64 tg] 45) = u := ⟨_, rfl⟩
 rw [hu] at BX VX KX hzx ⊢
 obtain ⟨xb, hxb⟩ : ∃ x, w.heap.size = x := ⟨_, rfl⟩
 rw [hxb] at VX ⊢
 have hxe : ¬ xb = eb := by omega
 have hex : ¬ eb = xb := by omega
 have HXB := qh hxb
 have BU : Hid (Below w0.heap.size w0 u) := qh (below_then HB.out BX.out)
 have IU : Hid (IcP u H [.int .i64 op, .int .i64 arg, .int .i64 k2, .int .i64 m2, .string s2, .slice A2 q2 c2, .int .i64 tg] i) := qh (IcP.keepP _ _ _ _ _ HI.out fun b q => BX.out.block b (HH.out b q).2)
 clear hu hxb
 obtain ⟨k0, k1, k2', k3, kf⟩ := box4 KX.out
 obtain ⟨x0, x1, x2, x3, x4, x5, x6⟩ := cells7 VX.out
 have hke := lt_of_block KX.out
 have hkx := lt_of_block VX.out
 obtain ⟨cs, G, hat⟩ := GR.out
 have HAT := qh hat
 have OW := qh (hat.ow.keep (Keep.of_below (S := fun _ => True) (below_then BU.out (Below.refl u.heap.size u).drew)) (fun _ _ => trivial)).own
 rw [HL.out] at OW
 have tst1 : n + 1 ≤ 2000000 := by omega
 clear hat
 go_upto_region 1 with fail
 go_region_law (first
  | (refine step_appG _ inT (by rfl) _ _ (by rfl) (by rfl) (OW.out.alloc _) _ 1 1 [.int .i64 op, .int .i64 arg, .int .i64 k2, .int .i64 m2, .string s2, .slice A2 q2 c2, .int .i64 tg] (by rfl) (by first | exact Rd.new _ 7 1 _ _ rfl | exact (Rd.new _ 7 1 _ _ rfl).drew) (by simp [Value.oneCell']) tst1 (by decide) ?_; intro v' wz own' gr'; have GZ' : Grew (.slice A n c) v' u.drew wz := (Grew.of_below (Below.alloc (Below.refl _ _) (Nat.le_refl _) _)).trans gr'; have hog : (Value.slice A n c).ownBlock ≠ some eb := (fun e => by have := (HAT.out.ow.lt eb e).1; omega); have KZ := qh ((GZ'.keep.block eb hke hog).trans KX.out); obtain ⟨y0, y1, y2, y3, yf⟩ := box4 KZ.out; have hy := lt_of_block KZ.out; obtain ⟨A1, c1, rfl, _⟩ := own'.slice; obtain ⟨n1, hn1⟩ : ∃ m, n + 1 = m := ⟨_, rfl⟩; rw [hn1] at own' GZ' ⊢; have HNN : Hid (cur.length + 1 = n1) := qh (by rw [HL.out]; exact hn1); have OWN : Hid (Own (cutX base u.drew) wz 45 7 (.slice A1 n1 c1) (cur.length + 1) (cs.flatten ++ [.int .i64 op, .int .i64 arg, .int .i64 k2, .int .i64 m2, .string s2, .slice A2 q2 c2, .int .i64 tg])) := qh (by rw [HNN.out]; exact own'); have GZ := qh GZ'; clear own' gr' GZ' hn1))
 all_goals
  have DONE := grwi_app (o := 3) heb HAT.out (below_then BU.out (Below.refl u.heap.size u).drew) (IcP.keepP _ _ _ _ _ IU.out fun b q => rfl) (fun b q => ⟨(HH.out b q).1, Nat.lt_of_lt_of_le (HH.out b q).2 BX.out.size⟩) HZ.out OWN.out GZ.out (.slice A1 n1 c1)
  have KN : Hid ((wz.setCell ⟨eb, 3, none⟩ (.slice A1 n1 c1)).heap[eb]? = some (.cells #[.slice gA gn gc, .slice lA ln lc, .slice pA pn pc, .slice A1 n1 c1] 56 (0, 0))) := qh (s4_3e KZ.out _)
  have GN := qh DONE.1
  have KP := qh DONE.2.1
  have hn1 : n1 = n + 1 := by have := HNN.out; have := HL.out; omega
  have HN1 := qh hn1
  have hwr : IntKind.i64.wrap ((n1 : Int) - 1) = (n : Int) := by rw [IntWalk.i64_in _ (by omega)]; omega
  obtain ⟨uz, huz⟩ : ∃ u, wz.setCell ⟨eb, 3, none⟩ (.slice A1 n1 c1) = u := ⟨_, rfl⟩
  rw [huz] at KN GN KP ⊢
  clear DONE huz k0 k1 k2' k3 kf x0 x1 x2 x3 x4 x5 x6 y0 y1 y2 y3 yf hy hn1 tst1
  obtain ⟨k0, k1, k2', k3, kf⟩ := box4 KN.out
  have hke' := lt_of_block KN.out
  go_wp2_with fail
  go_ret
  exact ⟨rfl, A1, n1, c1, KN.out, HN1.out, GN.out, KP.out⟩
def z8 : V8 := ⟨0, ByteArray.empty, 0, 0, ByteArray.empty, none, 0, 0, none, 0, 0, none, 0, 0⟩
def put8 (w : World) (g o : Nat) (x : V8) : World := (((((((w.setCell ⟨g, o, none⟩ (Value.int .i64 x.k)).setCell ⟨g, o + 1, none⟩ (Value.string x.s)).setCell ⟨g, o + 2, none⟩ (Value.int .i64 x.tk)).setCell ⟨g, o + 3, none⟩ (Value.int .i64 x.tn)).setCell ⟨g, o + 4, none⟩ (Value.string x.ts)).setCell ⟨g, o + 5, none⟩ (Value.slice x.tA x.tm x.tc)).setCell ⟨g, o + 6, none⟩ (Value.slice x.bA x.bm x.bc)).setCell ⟨g, o + 7, none⟩ (Value.slice x.eA x.em x.ec)
theorem Own.put8 {w0 w : World} {e : TypeId} {g n cap : Nat} {xs : List Value} (h : Own w0 w e 8 (.slice (some ⟨g, 0, none⟩) n cap) n xs) (o : Nat) (x : V8) : Own w0 (put8 w g o x) e 8 (.slice (some ⟨g, 0, none⟩) n cap) n (sets xs o x.cells) :=
 (((((((h.set o (Value.int .i64 x.k)).set (o + 1) (Value.string x.s)).set (o + 2) (Value.int .i64 x.tk)).set (o + 3) (Value.int .i64 x.tn)).set (o + 4) (Value.string x.ts)).set (o + 5) (Value.slice x.tA x.tm x.tc)).set (o + 6) (Value.slice x.bA x.bm x.bc)).set (o + 7) (Value.slice x.eA x.em x.ec)
theorem put8_size (w : World) (g o : Nat) (x : V8) : (put8 w g o x).heap.size = w.heap.size := by simp [put8]
theorem sgT : ElemT Tryz.prog 38 71 8 128 := ElemT.mk' (z := .agg #[.int .i64 0, .string ByteArray.empty, .int .i64 0, .int .i64 0, .string ByteArray.empty, .slice none 0 0, .slice none 0 0, .slice none 0 0]) Tryz.underlying38 (by kernel_rfl) rfl (by decide)
end Go.Proofs.YtnmblfonmfjoeaaGreatDoor
