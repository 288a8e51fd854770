/- Several texts in one: OutB, Say. -/
import Derived.Test.YtefcdpkficojgaaDoorKb26
import Derived.Test.YtefcdpkficojgaaDoorKb11
import Derived.Lib.AppendStr
import Derived.Test.YtefcdpkficojgaaDoorKb12
import Derived.Deep.CutRange
namespace Go.Proofs.YtefcdpkficojgaaDoor
open Go.RowKit
set_option linter.unusedVariables false


def OutB (w0 w : World) (v : Value) (l : List UInt8) : Prop := Own w0 w 5 1 v l.length (bv l)
theorem OutB.own {w0 w : World} {v : Value} {l : List UInt8} (h : OutB w0 w v l) : Below w0.heap.size w0 w := h.2
theorem OutB.slice {w0 w : World} {v : Value} {l : List UInt8} (h : OutB w0 w v l) : ∃ A c, v = .slice A l.length c ∧ l.length ≤ c := Own.slice h
theorem OutB.below {w0 w w' : World} {v : Value} {l : List UInt8} (h : OutB w0 w v l) (hb : Below w.heap.size w w') : OutB w0 w' v l := Own.below h hb
theorem OutB.alloc {w0 w : World} {v : Value} {l : List UInt8} (h : OutB w0 w v l) (o : Obj) : OutB w0 (w.alloc o) v l := Own.alloc h o
theorem OutB.drew {w0 w : World} {v : Value} {l : List UInt8} (h : OutB w0 w v l) : OutB w0 w.drew v l := Own.drew h
theorem OutB.empty {w0 w : World} (h : Below w0.heap.size w0 w) : OutB w0 (w.alloc (.cells #[] 5)) (.slice (some ⟨w.heap.size, 0, none⟩) 0 0) [] := Own.lit h _ 1 0 #[] (by simp [maxLen]) rfl
theorem run_outB_str {w0 w : World} {v : Value} {l : List UInt8} (own : OutB w0 w v l) (ty : TypeId) (s : ByteArray) (hb : l.length + s.size ≤ 100000000000) :
    ∃ v' w', (Builtin.append_ #[40, 9] ty #[v, .string s]).run Tryd.prog w = .ok v' w' ∧ OutB w0 w' v' (l ++ s.data.toList) ∧ Grew v v' w w' := by
  obtain ⟨i, z, hi, hz, hs, hbt, hzs⟩ := u8T.info
  have hzz : z = .int .u8 0 := by
    have h0 : (Tryd.prog.info? 5).map (fun i => i.zero) = some (some (.int .u8 0)) := by kernel_rfl
    rw [hi] at h0
    simpa [hz] using h0
  subst hzz
  obtain ⟨v', w', hr, h2, h3, h4⟩ := Lib.run_append_own_string (P := Tryd.prog) w w0.heap.size 40 9 ty 5 i u8T.under Tryd.underlying9 hi hz hs hbt v l.length (bv l) own.1 s (by simp only [maxLen]; omega) (by omega) own.2.size
  refine ⟨v', w', hr, ?_, ⟨h3.os, h3.tape, h3.output, h3.size, fun k hk hne => h3.block k hk (fun e => hne e.symm)⟩, ?_⟩
  · have := Own.grown own h2 h3
    unfold OutB
    rw [List.length_append, bv_append, size_list]
    exact this
  · rcases own.1.2 with ⟨rfl, h0⟩ | ⟨g, cap, cur, rfl, _, hg, hnc, hcm, hcs, htake⟩
    · by_cases hm : s.size = 0
      · have := h4.2 ⟨rfl, hm⟩
        subst this
        exact .inl rfl
      · have hr2 := run_append_nil_string (P := Tryd.prog) w 40 9 ty 5 i (.int .u8 0) u8T.under Tryd.underlying9 hi hz s (by omega) (by omega) (by rw [hbt]; omega)
        have := hr.symm.trans hr2
        injection this with e1 _
        subst e1
        exact .inr ⟨_, rfl, Nat.le_refl _⟩
    · have hcs' : cur.size = cap := by simpa using hcs
      by_cases hroom : l.length + s.size ≤ cap
      · have hr2 := Lib.run_append_room_string (P := Tryd.prog) w 40 9 ty 5 i u8T.under Tryd.underlying9 hi hs g l.length cap cur hg s hroom (by omega)
        have := hr.symm.trans hr2
        injection this with e1 _
        subst e1
        exact .inl rfl
      · have holds : ∀ j u, (bv l)[j]? = some u → w.cell? ((⟨g, 0, none⟩ : Addr).add j) = some u := own.1.cells (g := g) rfl
        have hr2 := Lib.run_append_grow_string (P := Tryd.prog) w 40 9 ty 5 i (.int .u8 0) u8T.under Tryd.underlying9 hi hz ⟨g, 0, none⟩ l.length cap (bv l) (by rw [hs, bv_length]; omega) holds s (by omega) (by omega) (by rw [hbt]; exact growslice_fits (by omega) (by omega))
        have := hr.symm.trans hr2
        injection this with e1 _
        subst e1
        exact .inr ⟨_, rfl, Nat.le_refl _⟩
/-- a row of one byte apart from the row that is gathered -/
def Lies (w : World) (u : Value) (g : Nat) (c : UInt8) : Prop := w.heap[g]? = some (.cells #[.int .u8 (c.toNat : Int)] 5 (0, 0)) ∧ u.ownBlock ≠ some g
theorem Lies.new {w0 w : World} {u : Value} {l : List UInt8} (o : OutB w0 w u l) (c : UInt8) : Lies (w.alloc (.cells #[.int .u8 (c.toNat : Int)] 5)) u w.heap.size c := by
  refine ⟨heap_alloc_new _ _, fun e => ?_⟩
  have := (o.1.lt _ e).2
  omega
theorem Lies.grew {w w' : World} {u u' : Value} {g : Nat} {c : UInt8} (h : Lies w u g c) (k : Grew u u' w w') : Lies w' u' g c := by
  have hlt := lt_of_block h.1
  refine ⟨(k.keep.block g hlt h.2).trans h.1, fun e => ?_⟩
  rcases k.lies with h1 | ⟨b, h1, h2⟩
  · exact h.2 (h1.symm.trans e)
  · rw [h1] at e; injection e with e; omega
theorem Lies.below {w w' : World} {u : Value} {g : Nat} {c : UInt8} (h : Lies w u g c) (k : Below w.heap.size w w') : Lies w' u g c := h.grew (Grew.of_below k)
theorem Lies.rd {w : World} {u : Value} {g : Nat} {c : UInt8} (h : Lies w u g c) : Rd w 1 (some ⟨g, 0, none⟩) 1 (bv [c]) :=
  ⟨rfl, fun _ => ⟨g, 0, rfl, fun j x hx => by
    have hh := h.1
    rcases j with _ | j
    · simp only [bv, List.map_cons, List.map_nil, List.getElem?_cons_zero, Option.some.injEq] at hx
      subst hx
      simp [World.cell?, hh]
    · simp [bv] at hx⟩⟩
theorem Grew.keepB {w0 w w' : World} {v v' : Value} {l : List UInt8} (h : Grew v v' w w') (own : OutB w0 w v l) : KeepT 5 w w' := Grew.keepT h own
section
variable {w0 w : World} {v : Value} {l : List UInt8} {o : Oper} {a : Act} {Q : Exit → Act → World → Prop}
theorem wp_outB_str {K : Act → World → Prop} (sl x : Operand) (ho : o.op = .call { callee := .builtin .append, args := #[sl, x], argTypes := #[40, 9] }) (hs : a.eval sl = v) (own : OutB w0 w v l) (s : ByteArray) (hx : a.eval x = .string s) (hb : l.length + s.size ≤ 100000000000)
    (h : ∀ v' w', OutB w0 w' v' (l ++ s.data.toList) → Grew v v' w w' → K (a.put o.dst v') w') : o.wp Tryd.prog a w K Q := by
  obtain ⟨v', w', hr, h2, h3⟩ := run_outB_str own o.type s hb
  unfold Oper.wp execOp
  simp only [ho, resolve, invoke, builtin, Sem.run_bind, Sem.run_pure, Result.andThen_ok, List.map_toArray, List.map_cons, List.map_nil, hs, hx, hr]
  exact h v' w' h2 h3
/-- in a plain region -/
theorem wpList_outB_str {ops : Array Oper} {rest : List Oper} (hgd : o.guard = none) (sl x : Operand) (ho : o.op = .call { callee := .builtin .append, args := #[sl, x], argTypes := #[40, 9] }) (hs : a.eval sl = v) (own : OutB w0 w v l) (s : ByteArray) (hx : a.eval x = .string s) (hb : l.length + s.size ≤ 100000000000)
    (h : ∀ v' w', OutB w0 w' v' (l ++ s.data.toList) → Grew v v' w w' → wpList Tryd.prog ops Q rest (a.put o.dst v') w') : wpList Tryd.prog ops Q (o :: rest) a w :=
  wpList_plain hgd fun _ hK => wp_outB_str sl x ho hs own s hx hb fun v' w' h2 h3 => hK _ _ (h v' w' h2 h3)
end

theorem below_then2 {w0 w w' : World} (h : Below w0.heap.size w0 w) (k : Below w.heap.size w w') : Below w0.heap.size w0 w' := h.trans (k.mono h.size)
end Go.Proofs.YtefcdpkficojgaaDoor
