/- Several texts in one: Bldr, DecLaws. -/
import Derived.Test.YtefcdpkficojgaaDoorKa44
import Derived.Lib.Builder
import Derived.Laws.Externs
import Derived.Test.YtefcdpkficojgaaDoorKa41
namespace Go.Proofs.YtefcdpkficojgaaDoor
open Go.RowKit
set_option linter.unusedVariables false


/-- a builder in block b, made since w0, that holds the bytes l -/
def BldB (w0 w : World) (b : Nat) (l : List UInt8) : Prop :=
  ∃ p v, w.heap[b]? = some (.cells #[p, v] 109 (0, 0)) ∧ (p = .pointer none ∨ p = .pointer (some ⟨b, 0, none⟩)) ∧ OutB w0 w v l ∧ w0.heap.size ≤ b
/-- all but block b and the rows of bytes is as it was -/
abbrev KeepW (b : Nat) (w w' : World) : Prop := Keep (fun i => i ≠ b ∧ Sane 5 w i) w w'
theorem KeepW.trans' {b : Nat} {u v x : World} (h : KeepW b u v) (k : KeepW b v x) : KeepW b u x := Keep.trans h k (fun i hi hS => ⟨hS.1, fun cur e => hS.2 cur ((h.block i hi hS).symm.trans e)⟩)
theorem KeepW.of_below' {b : Nat} {w w' : World} (h : Below w.heap.size w w') : KeepW b w w' := Keep.of_below h
theorem KeepW.cellW {b : Nat} {w w' : World} (h : KeepW b w w') {p : Addr} {v : Value} (hb : p.block ≠ b) (hS : Sane 5 w p.block) (hv : w.cell? p = some v) : w'.cell? p = some v := h.cellEq ⟨hb, hS⟩ hv
theorem KeepW.sane {b : Nat} {w w' : World} {k : Nat} (h : KeepW b w w') (hb : k ≠ b) (hS : Sane 5 w k) (hk : k < w.heap.size) : Sane 5 w' k := fun cur e => hS cur ((h.block k hk ⟨hb, hS⟩).symm.trans e)
theorem BldB.lt {w0 w : World} {b : Nat} {l : List UInt8} (h : BldB w0 w b l) : b < w.heap.size := by
  obtain ⟨p, v, hb, _⟩ := h
  exact lt_of_block hb
theorem BldB.own {w0 w : World} {b : Nat} {l : List UInt8} (h : BldB w0 w b l) : Below w0.heap.size w0 w := by
  obtain ⟨p, v, _, _, ho, _⟩ := h
  exact ho.own
theorem BldB.below {w0 w w' : World} {b : Nat} {l : List UInt8} (h : BldB w0 w b l) (hb : Below w.heap.size w w') : BldB w0 w' b l := by
  obtain ⟨p, v, h1, h2, h3, h4⟩ := h
  exact ⟨p, v, (hb.block b (lt_of_block h1)).trans h1, h2, h3.below hb, h4⟩
theorem BldB.sane {w0 w : World} {b : Nat} {l : List UInt8} (h : BldB w0 w b l) : Sane 5 w b := by
  obtain ⟨p, v, h1, _⟩ := h
  exact sane_of h1 (by decide)
/-- 'var b strings.Builder' -/
theorem BldB.new (w : World) : BldB w (w.alloc (.cells #[.pointer none, .slice none 0 0] 109)) w.heap.size [] :=
  ⟨_, _, heap_alloc_new _ _, .inl rfl, ⟨World.ownsRow_nil _ _ _ _, Below.alloc (Below.refl _ _) (Nat.le_refl _) _⟩, Nat.le_refl _⟩
theorem BldB.is {w0 w : World} {b : Nat} {l : List UInt8} (h : BldB w0 w b l) : Lib.IsBuilder 109 5 w0.heap.size b (bv l) w := by
  obtain ⟨p, v, h1, h2, h3, h4⟩ := h
  have hne : v.ownBlock ≠ some b := Lib.ownBlock_ne (T := 109) h3.1 h1 (by decide)
  have h5 : w.ownsRow w0.heap.size 5 1 v (bv l).length (bv l) := by rw [bv_length]; exact h3.1
  rcases h2 with rfl | rfl
  · exact .inl ⟨h4, v, h1, h5, hne⟩
  · exact .inr ⟨h4, v, h1, h5, hne⟩
theorem lies_bld : liesAt Tryd.prog Tryd.prog.depth 109 (2 / Tryd.prog.cellsOf 109) 0 109 1 = true := by kernel_rfl
theorem size_bld : (Tryd.prog.info? 109).map (·.size) = some 2 := by kernel_rfl
set_option maxHeartbeats 1000000 in
set_option maxRecDepth 100000 in
theorem bld_check_used (b : Nat) (w : World) (h0 : w.cell? ⟨b, 0, none⟩ = some (.pointer (some ⟨b, 0, none⟩))) :
    Calls Tryd.prog 176 #[.pointer (some ⟨b, 0, none⟩)] w fun e w' => e = .returned (.tuple #[]) ∧ w' = w := by
  obtain ⟨j, hj, _⟩ := Option.map_eq_some_iff.1 size_bld
  go_enter Tryd.func176, Tryd.ntmps176
  go_wp2
  rw [Lib.run_neq_ptr_same w _ Tryd.underlying107 hj]
  go_wp2
  go_end0
  exact ⟨rfl, rfl⟩
set_option maxHeartbeats 1000000 in
set_option maxRecDepth 100000 in
theorem bld_check_fresh (b : Nat) (w : World) (h0 : w.cell? ⟨b, 0, none⟩ = some (.pointer none)) (hsh : w.shape? b = some (109, 2)) (hfz : w.frozen? ⟨b, 0, none⟩ = false) :
    Calls Tryd.prog 176 #[.pointer (some ⟨b, 0, none⟩)] w fun e w' => e = .returned (.tuple #[]) ∧ w' = w.setCell ⟨b, 0, none⟩ (.pointer (some ⟨b, 0, none⟩)) := by
  obtain ⟨j, hj, hjs⟩ := Option.map_eq_some_iff.1 size_bld
  go_enter Tryd.func176, Tryd.ntmps176
  go_wp2
  rw [Lib.run_to_unsafe w ⟨b, 0, none⟩ Tryd.underlying107 Tryd.underlying229 hj (by rw [hjs]; decide) hsh (Nat.zero_lt_succ 1)]
  simp only [Result.andThen]
  rw [Oper.upon_value]
  go_wp2
  rw [run_callFunc_extern Tryd.func214 (by kernel_rfl) (by kernel_rfl) (by kernel_rfl) (e := Extern.AbiNoEscape.same) (by kernel_rfl)]
  rw [Lib.run_noEscape]
  simp only [Result.andThen]
  rw [Oper.upon_value]
  go_wp2
  rw [Lib.run_from_unsafe w ⟨b, 0, none⟩ Tryd.underlying229 Tryd.underlying107 hj hsh lies_bld]
  simp only [Result.andThen]
  rw [Oper.upon_value]
  go_wp2
  go_end0
  exact ⟨rfl, rfl⟩
theorem OutB.setOther {w0 w : World} {v : Value} {l : List UInt8} (h : OutB w0 w v l) {b : Nat} (hb : w0.heap.size ≤ b) (hne : v.ownBlock ≠ some b) (o : Nat) (u : Value) : OutB w0 (w.setCell ⟨b, o, none⟩ u) v l :=
  ⟨h.1.kept (row := some b) ⟨rfl, rfl, rfl, by simp [World.setCell], fun k _ hk => Below.heap_setCell _ _ _ _ (fun e => hk (by simp [e]))⟩ (Or.inr hne), h.2.setCell (p := ⟨b, o, none⟩) hb _⟩
/-- behind copyCheck the builder holds its own address -/
theorem bld_check (b : Nat) (w0 w : World) (l : List UInt8) (h : BldB w0 w b l) :
    Calls Tryd.prog 176 #[.pointer (some ⟨b, 0, none⟩)] w fun e w' => e = .returned (.tuple #[]) ∧ (∃ v, w'.heap[b]? = some (.cells #[.pointer (some ⟨b, 0, none⟩), v] 109 (0, 0)) ∧ OutB w0 w' v l) ∧ KeepW b w w' := by
  obtain ⟨p, v, h1, h2, h3, h4⟩ := h
  have c0 : w.cell? ⟨b, 0, none⟩ = some p := by rw [Lib.cell_of_heap h1]; rfl
  rcases h2 with rfl | rfl
  · refine (bld_check_fresh b w c0 (by simp [World.shape?, h1]) (Lib.frozen_of_heap h1 0)).mono ?_
    rintro e w' ⟨rfl, rfl⟩
    have hne : v.ownBlock ≠ some b := Lib.ownBlock_ne (T := 109) h3.1 h1 (by decide)
    refine ⟨rfl, ⟨v, by simp [World.setCell, Array.getElem?_modify, h1], h3.setOther h4 hne _ _⟩, (Keep.refl _ _).setCell (fun hS => hS.1 rfl) _⟩
  · refine (bld_check_used b w c0).mono ?_
    rintro e w' ⟨rfl, rfl⟩
    exact ⟨rfl, ⟨v, h1, h3⟩, Keep.refl _ _⟩
set_option maxHeartbeats 2000000 in
set_option maxRecDepth 100000 in
theorem bld_write (b : Nat) (w0 w : World) (l : List UInt8) (s : ByteArray) (h : BldB w0 w b l) (hb : l.length + s.size ≤ 100000000000) :
    Calls Tryd.prog 112 #[.pointer (some ⟨b, 0, none⟩), .string s] w fun e w' => e = .returned (.tuple #[.int .i64 s.size, .nilIface]) ∧ BldB w0 w' b (l ++ s.data.toList) ∧ KeepW b w w' := by
  have h4 : w0.heap.size ≤ b := by obtain ⟨_, _, _, _, _, h4⟩ := h; exact h4
  have HB := Lib.hid h
  clear h
  go_enter Tryd.func112, Tryd.ntmps112
  go_wp2_with fail
  refine (bld_check b w0 _ l HB.out).mono ?_
  rintro e w1 ⟨rfl, ⟨v, hbk, own⟩, k1⟩
  have K1 := Lib.hid k1
  have O1 := Lib.hid own
  have HK := Lib.hid hbk
  have c0 : w1.cell? ⟨b, 0, none⟩ = some (.pointer (some ⟨b, 0, none⟩)) := by rw [Lib.cell_of_heap hbk]; rfl
  have c1 : w1.cell? ⟨b, 1, none⟩ = some v := by rw [Lib.cell_of_heap hbk]; rfl
  clear k1 own hbk
  go_wp2_with (at_builtin; refine wpList_outB_str rfl _ _ rfl rfl O1.out s rfl hb ?_; intro v2 w2 own2 kp2; have O2 := Lib.hid own2; have K2 := Lib.hid (Grew.keepB kp2 O1.out); have hne2 := Lib.ownBlock_ne (T := 109) O1.out.1 HK.out (by decide); have HK2 := Lib.hid ((kp2.keep.block b (lt_of_block HK.out) (fun e => hne2 e)).trans HK.out); clear own2 kp2 hne2; have d0 : w2.cell? ⟨b, 0, none⟩ = some (.pointer (some ⟨b, 0, none⟩)) := (by rw [Lib.cell_of_heap HK2.out]; rfl); have d1 : w2.cell? ⟨b, 1, none⟩ = some v := (by rw [Lib.cell_of_heap HK2.out]; rfl); have f1 : w2.frozen? ⟨b, 1, none⟩ = false := Lib.frozen_of_heap HK2.out 1; obtain ⟨A2, c2, rfl, _⟩ := O2.out.slice)
  go_ret2
  refine ⟨rfl, ⟨_, _, by simp [World.setCell, Array.getElem?_modify, HK2.out], .inr rfl, O2.out.setOther h4 (Lib.ownBlock_ne (T := 109) O2.out.1 HK2.out (by decide)) _ _, h4⟩, ?_⟩
  exact (KeepW.trans' K1.out (Keep.mono K2.out (fun _ _ h => h.2))).setCell (fun hS => hS.1 rfl) _

/-- the library's table of powers lies as its initialiser lays it -/
def TabW (w : World) : Prop := Lib.TabIs Tryd.prog w "internal/strconv.uint64pow10" .u64 Lib.pow10Tab
theorem TabW.below {w w' : World} (h : TabW w) (hb : Below w.heap.size w w') : TabW w' := by
  unfold TabW Lib.TabIs World.var? at *
  cases hg : Tryd.prog.globalNamed "internal/strconv.uint64pow10" with
  | none => simp [hg] at h
  | some g =>
    simp only [hg, Option.bind_some] at h ⊢
    have hlt : g < w.heap.size := by
      rcases Nat.lt_or_ge g w.heap.size with h1 | h1
      · exact h1
      · rw [Array.getElem?_eq_none h1] at h; simp at h
    rw [hb.block g hlt]
    exact h
end Go.Proofs.YtefcdpkficojgaaDoor
