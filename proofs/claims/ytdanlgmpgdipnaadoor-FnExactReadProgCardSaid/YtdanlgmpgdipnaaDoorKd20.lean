/- Several texts in one: RsNew, OutB, Say. -/
import Derived.Test.YtdanlgmpgdipnaaDoorKd17
import Derived.Test.YtdanlgmpgdipnaaDoorKd19
import Derived.Test.YtdanlgmpgdipnaaDoorKd11
import Derived.Test.YtdanlgmpgdipnaaDoorKd2
import Derived.Lib.AppendStr
import Derived.Test.YtdanlgmpgdipnaaDoorKd9
import Derived.Deep.CutRange
namespace Go.Proofs.YtdanlgmpgdipnaaDoor
open Go.RowKit
set_option linter.unusedVariables false


set_option maxHeartbeats 800000 in
set_option maxRecDepth 100000 in
theorem spec_l06New (s : ByteArray) (w : World) :
    Calls Tryd.prog 10 #[.string s] w fun e w' => ∃ rb A c, e = .returned (.pointer (some ⟨rb, 0, none⟩)) ∧ w.heap.size ≤ rb ∧ Below w.heap.size w w' ∧ w'.heap[rb]? = some (.cells #[.slice A (lexR s).1.length c, .int .i64 0, .int .i64 (s.size : Int), .int .i64 (lexR s).2.1, .int .i64 (lexR s).2.2, .int .i64 60] 39 (0, 0)) ∧ Rd w' 3 A (lexR s).1.length ((lexR s).1.flatMap sgF) ∧ (∀ b o, A = some ⟨b, o, none⟩ → b < rb) ∧ (lexR s).1.length ≤ c := by
  go_enter Tryd.func10, Tryd.ntmps10
  go_wp2_with fail
  refine (spec_Lex s _).mono ?_
  rintro e w1 ⟨v, rfl, own⟩
  obtain ⟨A, c, rfl, hc⟩ := Own.slice own
  have OW := Lib.hid own
  have hlt := fun g hg => (own.1.lt g hg).2
  have HLT : Hid (∀ b o, A = some ⟨b, o, none⟩ → b < w1.heap.size) := Lib.hid (fun b o e => by
    subst e
    exact hlt b rfl)
  clear own hlt
  obtain ⟨L, hL⟩ : ∃ L, (lexR s).1 = L := ⟨_, rfl⟩
  obtain ⟨fc, hfc⟩ : ∃ x, (lexR s).2.1 = x := ⟨_, rfl⟩
  obtain ⟨fp, hfp⟩ : ∃ x, (lexR s).2.2 = x := ⟨_, rfl⟩
  have HL := Lib.hid hL
  have HFC := Lib.hid hfc
  have HFP := Lib.hid hfp
  rw [hL] at OW hc ⊢
  rw [hfc, hfp]
  clear hL hfc hfp
  go_wp2_with fail
  go_ret
  rw [HL.out, HFC.out, HFP.out]
  refine ⟨_, A, c, rfl, ?_, ?_, ?_, ?_, ?_, hc⟩
  · have := OW.out.own.size; simp; omega
  · exact (OW.out.own.alloc OW.out.own.size _).alloc (by have := OW.out.own.size; simp; omega) _
  · have := heap_alloc_new (w1.alloc (.cells #[.int .i64 fc, .int .i64 fp] 27)) (.cells #[.slice A L.length c, .int .i64 0, .int .i64 (s.size : Int), .int .i64 fc, .int .i64 fp, .int .i64 60] 39)
    simpa using this
  · exact (Own.rd OW.out).below (Below.alloc (Below.alloc (Below.refl _ _) (Nat.le_refl _) _) (by simp) _)
  · intro b o e; have := HLT.out b o e; simp; omega

def OutB (w0 w : World) (v : Value) (l : List UInt8) : Prop := Own w0 w 5 1 v l.length (bv l)
theorem OutB.own {w0 w : World} {v : Value} {l : List UInt8} (h : OutB w0 w v l) : Below w0.heap.size w0 w := h.2
theorem OutB.slice {w0 w : World} {v : Value} {l : List UInt8} (h : OutB w0 w v l) : ∃ A c, v = .slice A l.length c ∧ l.length ≤ c := Own.slice h
theorem OutB.below {w0 w w' : World} {v : Value} {l : List UInt8} (h : OutB w0 w v l) (hb : Below w.heap.size w w') : OutB w0 w' v l := Own.below h hb
theorem OutB.alloc {w0 w : World} {v : Value} {l : List UInt8} (h : OutB w0 w v l) (o : Obj) : OutB w0 (w.alloc o) v l := Own.alloc h o
theorem OutB.drew {w0 w : World} {v : Value} {l : List UInt8} (h : OutB w0 w v l) : OutB w0 w.drew v l := Own.drew h
theorem OutB.empty {w0 w : World} (h : Below w0.heap.size w0 w) : OutB w0 (w.alloc (.cells #[] 5)) (.slice (some ⟨w.heap.size, 0, none⟩) 0 0) [] := Own.lit h _ 1 0 #[] (by simp [maxLen]) rfl
/-- a row of one byte apart from the row that is gathered -/
def Lies (w : World) (u : Value) (g : Nat) (c : UInt8) : Prop := w.heap[g]? = some (.cells #[.int .u8 (c.toNat : Int)] 5 (0, 0)) ∧ u.ownBlock ≠ some g
theorem Lies.new {w0 w : World} {u : Value} {l : List UInt8} (o : OutB w0 w u l) (c : UInt8) : Lies (w.alloc (.cells #[.int .u8 (c.toNat : Int)] 5)) u w.heap.size c := by
  refine ⟨heap_alloc_new _ _, fun e => ?_⟩
  have := (o.1.lt _ e).2
  omega
theorem Lies.grew {w w' : World} {u u' : Value} {g : Nat} {c : UInt8} (h : Lies w u g c) (k : Grew u u' w w') : Lies w' u' g c := by
  have hlt := lt_of_block h.1
  refine ⟨(k.keep.block g hlt h.2).trans h.1, fun e => ?_⟩
  rcases k.lies with h1 | ⟨b, h1, h2⟩
  · exact h.2 (h1.symm.trans e)
  · rw [h1] at e; injection e with e; omega
theorem Lies.below {w w' : World} {u : Value} {g : Nat} {c : UInt8} (h : Lies w u g c) (k : Below w.heap.size w w') : Lies w' u g c := h.grew (Grew.of_below k)
theorem Lies.rd {w : World} {u : Value} {g : Nat} {c : UInt8} (h : Lies w u g c) : Rd w 1 (some ⟨g, 0, none⟩) 1 (bv [c]) :=
  ⟨rfl, fun _ => ⟨g, 0, rfl, fun j x hx => by
    have hh := h.1
    rcases j with _ | j
    · simp only [bv, List.map_cons, List.map_nil, List.getElem?_cons_zero, Option.some.injEq] at hx
      subst hx
      simp [World.cell?, hh]
    · simp [bv] at hx⟩⟩
section
variable {w0 w : World} {v : Value} {l : List UInt8} {o : Oper} {a : Act} {Q : Exit → Act → World → Prop}
end

theorem spec_l03Sign (k : Int) (hk : k = 3 ∨ k = 4 ∨ k = 5 ∨ k = 6 ∨ k = 7 ∨ k = 9) (w : World) : Calls Tryd.prog 57 #[.int .i64 k] w fun e w' => e = .returned (.string (signB k)) ∧ Below w.heap.size w w' := by
  rcases hk with rfl | rfl | rfl | rfl | rfl | rfl
  all_goals
    go_enter Tryd.func57, Tryd.ntmps57
    go_wp2_with fail
    go_ret
    exact ⟨rfl, (by repeat' (first | exact Below.refl _ _ | exact Nat.le_refl _ | (refine Below.alloc ?_ ?_ _) | (refine Below.setCell ?_ ?_ _) | (refine Below.drew ?_) | (refine below_drewN ?_ _) | assumption | (simp; done) | (simp; omega)))⟩
end Go.Proofs.YtdanlgmpgdipnaaDoor
