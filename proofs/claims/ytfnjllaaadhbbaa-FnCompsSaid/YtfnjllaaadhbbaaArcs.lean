/- Lists of arcs: the contracts of the laws' helpers that measure, copy and compare them, of GraphOk in the program and in the reference, and the law over them. -/
import Derived.Test.YtfnjllaaadhbbaaOpen
import Derived.Deep.RegionHeld3
namespace Go.Proofs.Ytfnjllaaadhbbaa
open Go.RowKit
set_option linter.unusedVariables false

abbrev Arc2 := Int × Int
def arcF (a : Arc2) : List Value := [.int .i64 a.1, .int .i64 a.2]
theorem arcF_len (a : Arc2) : (arcF a).length = 2 := rfl
def IsArcs (w : World) (v : Value) (ars : List Arc2) : Prop := IsRows 2 arcF w v ars
def i64ok (n : Int) : Prop := -9223372036854775808 ≤ n ∧ n ≤ 9223372036854775807
theorem i64ok_of {n : Int} (h : (Lit.int .i64 n).wf = true) : i64ok n := by
  simp [Lit.wf, IntKind.min, IntKind.max, IntKind.signed, IntKind.bits] at h
  exact ⟨by omega, by omega⟩
theorem rd_arc {w : World} {A : Option Addr} {ars : List Arc2} (rd : Rd w 2 A ars.length (ars.flatMap arcF)) {k : Nat} (hk : k < ars.length) :
    ∃ b off, A = some ⟨b, off, none⟩ ∧ w.cell? ⟨b, off + k * 2, none⟩ = some (.int .i64 ars[k].1) ∧ w.cell? ⟨b, off + k * 2 + 1, none⟩ = some (.int .i64 ars[k].2) := by
  obtain ⟨b, off, e, hc⟩ := rd_flat arcF_len rd hk
  exact ⟨b, off, e, hc 0 _ (by omega) rfl, hc 1 _ (by omega) rfl⟩
theorem arcT : ElemT Try.prog 24 47 2 16 := ElemT.mk' (z := .agg #[.int .i64 0, .int .i64 0]) Try.underlying24 (by kernel_rfl) rfl (by decide)
theorem arcZ : (Try.prog.info? 47).map (fun i => i.zero) = some (some (.agg #[.int .i64 0, .int .i64 0])) := by kernel_rfl
set_option maxRecDepth 100000 in
theorem open_arcs {H : Type} {enc : TypeId × Value → H} {w : World} {r : Reach} {b0 base : Nat} {spare : Nat → Bool} {held : Bool} {v : Value} {d : DataW H} {p : List MemPlace} (hv : Value.okWide Try.prog w r b0 35 v) (h : DataW.Trod enc Try.prog w base spare held 35 v d p) :
    ∃ ars : List Arc2, IsArcs w v ars ∧ ∀ a ∈ ars, i64ok a.1 ∧ i64ok a.2 := by
  obtain ⟨a0, len, cap, rfl⟩ := Go.WideShapes.okWide_slice Try.underlying35 hv
  obtain ⟨fuel, hf⟩ := h
  obtain ⟨u, ars, hu, hr⟩ := open_cells (R := fun cs (a : Arc2) => cs = arcF a ∧ (i64ok a.1 ∧ i64ok a.2)) (by decide) Try.underlying35 (by kernel_rfl : Try.prog.cellsOf 57 = 2) hf (fun n cs y _ hy => by
    have hl := struct_len Try.underlying57 hy
    obtain ⟨m0, y0, _, h0⟩ := field_of Try.underlying57 hy 0 _ rfl
    obtain ⟨m1, y1, _, h1⟩ := field_of Try.underlying57 hy 1 _ rfl
    replace h0 : DataW.trod enc Try.prog w base spare held m0 3 ((cs.drop 0).take (Try.prog.cellsOf 3)) = some y0 := h0
    replace h1 : DataW.trod enc Try.prog w base spare held m1 3 ((cs.drop 1).take (Try.prog.cellsOf 3)) = some y1 := h1
    rw [show Try.prog.cellsOf 57 = 2 from by kernel_rfl] at hl
    rw [show Try.prog.cellsOf 3 = 1 from by kernel_rfl] at h0 h1
    match cs, hl with
    | [c0, c1], _ =>
      simp only [List.drop_zero, List.drop_succ_cons, List.take_succ_cons, List.take_zero] at h0 h1
      obtain ⟨n0, e0, _, w0⟩ := DataW.trod_int Try.underlying3 h0
      obtain ⟨n1, e1, _, w1⟩ := DataW.trod_int Try.underlying3 h1
      simp only [List.cons.injEq, and_true] at e0 e1
      subst e0 e1
      exact ⟨(n0, n1), rfl, i64ok_of w0, i64ok_of w1⟩)
  simp only [Value.cells, List.cons.injEq, and_true] at hu
  subst hu
  exact ⟨ars, hr.rows⟩
theorem laws_szArcS (v : Value) (ars : List Arc2) (left : Int) (w : World) (h : IsArcs w v ars) (h0 : 0 ≤ left) (h1 : left ≤ 1048576) :
    Calls Try.prog 15 #[v, .int .i64 left] w fun e w' => e = .returned (.int .i64 (if left - (ars.length : Int) < 0 then -1 else left - (ars.length : Int))) ∧ w = w' := by
  obtain ⟨A, c, rfl, h2, h3, rd⟩ := h
  unfold maxLen at h3
  clear rd
  by_cases g : left - (ars.length : Int) < 0
  · rw [if_pos g]
    go_enter Try.func15, Try.ntmps15
    go_wp2_with fail
    go_ret
    exact ⟨rfl, rfl⟩
  · rw [if_neg g]
    go_enter Try.func15, Try.ntmps15
    go_wp2_with fail
    go_ret
    exact ⟨rfl, rfl⟩
theorem laws_toArc (a b : Int) (w : World) : Calls Try.prog 30 #[.agg #[.int .i64 a, .int .i64 b]] w fun e w' => e = .returned (.agg #[.int .i64 a, .int .i64 b]) ∧ Below w.heap.size w w' := by
  go_enter Try.func30, Try.ntmps30
  go_wp2_with fail
  exact bodyPost_ret (v := .agg #[.int .i64 a, .int .i64 b]) (by simp [results, Try.results30, go_sem]) rfl ⟨rfl, (by repeat' (first | exact Below.refl _ _ | exact Nat.le_refl _ | (refine Below.alloc ?_ ?_ _) | (refine Below.setCell ?_ ?_ _) | (refine Below.drew ?_) | (refine below_drewN ?_ _) | assumption | (simp; done) | (simp; omega)))⟩
def arcEq (a b a' b' : Int) : Bool := decide ((a, b) = (a', b'))
theorem arcEq_pair (x y : Arc2) : arcEq x.1 x.2 y.1 y.2 = decide (x = y) := rfl
theorem laws_eqArc (a b a' b' : Int) (w : World) : Calls Try.prog 31 #[.agg #[.int .i64 a, .int .i64 b], .agg #[.int .i64 a', .int .i64 b']] w fun e w' => e = .returned (.bool (arcEq a b a' b')) ∧ Below w.heap.size w w' := by
  go_enter Try.func31, Try.ntmps31
  go_wp2_with fail
  all_goals go_ret
  all_goals exact ⟨ret_bool (by simp_all [arcEq]), (by repeat' (first | exact Below.refl _ _ | exact Nat.le_refl _ | (refine Below.alloc ?_ ?_ _) | (refine Below.setCell ?_ ?_ _) | (refine Below.drew ?_) | (refine below_drewN ?_ _) | assumption | (simp; done) | (simp; omega)))⟩
set_option maxHeartbeats 400000 in
theorem laws_toArcS (v : Value) (ars : List Arc2) (w : World) (h : IsArcs w v ars) (h1 : ars.length ≤ 1048576) :
    Calls Try.prog 17 #[v] w fun e w' => ∃ v', e = .returned v' ∧ IsArcs w' v' ars ∧ Below w.heap.size w w' := by
  obtain ⟨A, c, rfl, h2, h3, rd⟩ := h
  unfold maxLen at h3
  have RD := Lib.hid rd
  clear rd
  go_enter Try.func17, Try.ntmps17
  go_wp2_with (at_make; refine wpList_mkN rfl _ _ 24 rfl arcT arcF arcF_len (0, 0) _ arcZ rfl (Below.refl _ _) _ _ _ _ ars.length rfl rfl rfl rfl (by omega) (by simp only [maxLen]; omega) ?_; intro w1 own1 hlt1 hg1)
  go_loopw [4] (fun i wr => ∃ k : Nat, k ≤ ars.length ∧ i = .int .i64 k ∧ Own w wr 47 2 (.slice (some ⟨w.heap.size, 0, none⟩) ars.length ars.length) ars.length ((part ars (0, 0) k).flatMap arcF)) (fun i _ => ars.length - (intOf i).toNat)
  case atStart => exact ⟨0, Nat.zero_le _, rfl, by rw [part_zero]; exact own1⟩
  case round =>
    obtain ⟨k, hk, rfl, own⟩ := hrel
    have OW := Lib.hid own
    clear own own1 hlt1 hg1
    by_cases hlt : k < ars.length
    · obtain ⟨b, off, rfl, hc0, hc1⟩ := rd_arc (RD.out.below OW.out.2) hlt
      have h0k : (0 : Int) ≤ (k : Int) := by omega
      go_wp2_with fail
      refine (laws_toArc _ _ _).mono ?_
      rintro e w1 ⟨rfl, b1⟩
      have O1 := Lib.hid (OW.out.below b1)
      have hp : k < (part ars (0, 0) k).length := by rw [part_length _ _ (by omega)]; exact hlt
      have hd0 := O1.out.cellAt (j := k * 2) (by omega) (flat_get arcF 2 arcF_len _ k 0 hp (by omega))
      have hd1 := O1.out.cellAt (j := k * 2 + 1) (by omega) (flat_get arcF 2 arcF_len _ k 1 hp (by omega))
      have hf0 := O1.out.freeAt (k * 2)
      have hf1 := O1.out.freeAt (k * 2 + 1)
      have OS := (O1.out.set (k * 2) (.int .i64 ars[k].1)).set (k * 2 + 1) (.int .i64 ars[k].2)
      have e2 : (((part ars (0, 0) k).flatMap arcF).set (k * 2) (.int .i64 ars[k].1)).set (k * 2 + 1) (.int .i64 ars[k].2) = (part ars (0, 0) (k + 1)).flatMap arcF := by
        rw [← part_set _ _ hlt]
        exact flat_sets arcF 2 arcF_len _ k hp ars[k]
      rw [e2] at OS
      have O2 := Lib.hid OS
      clear OS e2
      go_wp2_with fail
      go_roundw
      case rel => exact ⟨k + 1, by omega, by go_num, O2.out⟩
      case measure => simp [intOf]; omega
    · have OE := OW.out
      rw [part_all _ _ (by omega)] at OE
      have OB := Lib.hid OE
      clear OE OW
      go_wp2_with fail
      go_ret
      exact ⟨_, rfl, IsRows.of_own OB.out, OB.out.2⟩
set_option maxHeartbeats 400000 in
theorem laws_eqArcS (v u : Value) (ss tt : List Arc2) (w : World) (h : IsArcs w v ss) (h' : IsArcs w u tt) :
    Calls Try.prog 18 #[v, u] w fun e w' => e = .returned (.bool (decide (ss = tt))) ∧ Below w.heap.size w w' := by
  obtain ⟨A, c, rfl, h2, h3, rd⟩ := h
  obtain ⟨A', c', rfl, h2', h3', rd'⟩ := h'
  unfold maxLen at h3 h3'
  have RD := Lib.hid rd
  have RD' := Lib.hid rd'
  clear rd rd'
  by_cases g0 : ss.length = tt.length
  · have g1 : ((ss.length : Int) != (tt.length : Int)) = false := by simp [g0]
    have G := Lib.hid g0
    clear g0
    go_enter Try.func18, Try.ntmps18
    go_wp2_with fail
    go_loopw [5] (fun i wr => ∃ k : Nat, k ≤ ss.length ∧ i = .int .i64 k ∧ Below w.heap.size w wr ∧ Hid (ss.take k = tt.take k)) (fun i _ => ss.length - (intOf i).toNat)
    case atStart => exact ⟨0, Nat.zero_le _, rfl, Below.refl _ _, Lib.hid rfl⟩
    case round =>
      obtain ⟨k, hk, rfl, hb, HT⟩ := hrel
      have HB := Lib.hid hb
      clear hb
      by_cases hlt : k < ss.length
      · have hlt' : k < tt.length := by rw [← G.out]; exact hlt
        obtain ⟨b, off, rfl, hc0, hc1⟩ := rd_arc (RD.out.below HB.out) hlt
        obtain ⟨b', off', rfl, hd0, hd1⟩ := rd_arc (RD'.out.below HB.out) hlt'
        have h0k : (0 : Int) ≤ (k : Int) := by omega
        have h1k : (k : Int) < (ss.length : Int) := by omega
        have h2k : (k : Int) < (tt.length : Int) := by omega
        by_cases e : ss[k] = tt[k]
        · have HE := Lib.hid e
          have q := (arcEq_pair ss[k] tt[k]).trans (decide_eq_true e)
          clear e
          go_wp2_with fail
          go_region_held3 (fun w' => w'.cell? ⟨b, off + k * 2, none⟩ = some (.int .i64 ss[k].1) ∧ w'.cell? ⟨b, off + k * 2 + 1, none⟩ = some (.int .i64 ss[k].2) ∧ w'.cell? ⟨b', off' + k * 2, none⟩ = some (.int .i64 tt[k].1) ∧ w'.cell? ⟨b', off' + k * 2 + 1, none⟩ = some (.int .i64 tt[k].2))
            (first | go_keep | exact ⟨cell_keep b1 hc0, cell_keep b1 hc1, cell_keep b1 hd0, cell_keep b1 hd1⟩)
            (first | (go_at_call 31; refine (laws_eqArc _ _ _ _ _).mono ?_; rintro e w1 ⟨rfl, b1⟩))
          all_goals
            go_wp2_with fail
            go_roundw
            case rel => exact ⟨k + 1, by omega, by go_num, HB.out.drew.trans (b1.mono HB.out.size), Lib.hid (take_eq_succ HT.out hlt hlt' HE.out)⟩
            case measure => simp [intOf]; omega
        · have HE := Lib.hid e
          have q := (arcEq_pair ss[k] tt[k]).trans (decide_no e)
          clear e
          go_wp2_with fail
          go_region_held3 (fun w' => w'.cell? ⟨b, off + k * 2, none⟩ = some (.int .i64 ss[k].1) ∧ w'.cell? ⟨b, off + k * 2 + 1, none⟩ = some (.int .i64 ss[k].2) ∧ w'.cell? ⟨b', off' + k * 2, none⟩ = some (.int .i64 tt[k].1) ∧ w'.cell? ⟨b', off' + k * 2 + 1, none⟩ = some (.int .i64 tt[k].2))
            (first | go_keep | exact ⟨cell_keep b1 hc0, cell_keep b1 hc1, cell_keep b1 hd0, cell_keep b1 hd1⟩)
            (first | (go_at_call 31; refine (laws_eqArc _ _ _ _ _).mono ?_; rintro e w1 ⟨rfl, b1⟩))
          all_goals
            go_wp2_with fail
            go_ret
            exact ⟨ret_bool (decide_no (fun e => HE.out (by subst e; rfl))).symm, HB.out.drew.trans (b1.mono HB.out.size)⟩
      · go_wp2_with fail
        go_ret
        have e : ss = tt := by
          have := HT.out
          rwa [List.take_of_length_le (by omega), List.take_of_length_le (by rw [← G.out]; omega)] at this
        exact ⟨ret_bool (decide_eq_true e).symm, HB.out⟩
  · have g1 : ((ss.length : Int) != (tt.length : Int)) = true := by simp; omega
    have G := Lib.hid g0
    clear g0
    go_enter Try.func18, Try.ntmps18
    go_wp2_with fail
    go_ret
    exact ⟨ret_bool (decide_no (fun e => G.out (by rw [e]))).symm, Below.refl _ _⟩
def inB (x a b : Int) : Bool := decide (a ≤ x) && decide (x ≤ b)
theorem spec_l01In (x a b : Int) (w : World) : Calls Try.prog 29 #[.int .i64 x, .int .i64 a, .int .i64 b] w fun e w' => e = .returned (.bool (inB x a b)) ∧ w = w' := by
  by_cases h : a ≤ x
  · go_enter Try.func29, Try.ntmps29
    go_wp2
    go_ret
    exact ⟨ret_bool (by simp only [inB, h, decide_true, Bool.true_and]), rfl⟩
  · have h' := decide_no h
    go_enter Try.func29, Try.ntmps29
    go_wp2
    go_ret
    exact ⟨ret_bool (by simp only [inB, h', Bool.false_and]), rfl⟩
def arcOk (n : Int) (a : Arc2) : Bool := inB a.1 0 (n - 1) && inB a.2 0 (n - 1)
def graphB (n : Int) (ars : List Arc2) : Bool := inB n 0 60 && decide (ars.length ≤ 2000) && ars.all (arcOk n)
theorem graph_no1 {n : Int} {ars : List Arc2} (h : inB n 0 60 = false) : graphB n ars = false := by simp [graphB, h]
theorem graph_no2 {n : Int} {ars : List Arc2} (h : 2000 < ars.length) : graphB n ars = false := by
  have : decide (ars.length ≤ 2000) = false := decide_no (by omega)
  simp [graphB, this]
theorem graph_no3 {n : Int} {ars : List Arc2} {k : Nat} (hk : k < ars.length) (h : arcOk n ars[k] = false) : graphB n ars = false := by
  have : ars.all (arcOk n) = false := by
    rw [List.all_eq_false]; exact ⟨ars[k], List.getElem_mem hk, by simp [h]⟩
  simp only [graphB, this, Bool.and_false]
theorem graph_yes {n : Int} {ars : List Arc2} (h : inB n 0 60 = true) (h2 : ars.length ≤ 2000) (h3 : ars.all (arcOk n) = true) : graphB n ars = true := by
  simp [graphB, h, h2, h3]
theorem all_succ {n : Int} {ars : List Arc2} {k : Nat} (hk : k < ars.length) (h : (ars.take k).all (arcOk n) = true) (e : arcOk n ars[k] = true) : (ars.take (k + 1)).all (arcOk n) = true := by
  have e1 : ars.take (k + 1) = ars.take k ++ [ars[k]] := List.take_succ_eq_append_getElem hk
  rw [e1, List.all_append, h]
  simp [e]
theorem inB_yes {x a b : Int} (h : a ≤ x) (h' : x ≤ b) : inB x a b = true := by simp [inB, h, h']
theorem inB_no {x a b : Int} (h : x < a ∨ b < x) : inB x a b = false := by simp [inB]; omega
theorem inB_le {x a b : Int} (h : inB x a b = true) : a ≤ x ∧ x ≤ b := by simpa [inB] using h
theorem inB_not {x a b : Int} (h : inB x a b = false) : x < a ∨ b < x := by simp [inB] at h; omega
set_option maxHeartbeats 400000 in
theorem spec_GraphOk (n : Int) (v : Value) (ars : List Arc2) (w : World) (h : IsArcs w v ars) (hn : i64ok n) :
    Calls Try.prog 26 #[.int .i64 n, v] w fun e w' => e = .returned (.bool (graphB n ars)) ∧ w = w' := by
  obtain ⟨A, c, rfl, h2, h3, rd⟩ := h
  unfold maxLen at h3
  have RD := Lib.hid rd
  clear rd
  by_cases g1 : inB n 0 60 = true
  · by_cases g2 : 2000 < ars.length
    · have F := Lib.hid (graph_no2 (n := n) g2)
      go_enter Try.func26, Try.ntmps26
      go_wp2_with (go_at_call 29; refine (spec_l01In _ _ _ _).mono ?_; rintro e w' ⟨rfl, rfl⟩)
      go_ret
      exact ⟨ret_bool F.out.symm, rfl⟩
    · obtain ⟨gn1, gn2⟩ := inB_le g1
      go_enter Try.func26, Try.ntmps26
      go_wp2_with (go_at_call 29; refine (spec_l01In _ _ _ _).mono ?_; rintro e w' ⟨rfl, rfl⟩)
      go_loop [5] (fun i => ∃ k : Nat, k ≤ ars.length ∧ i = .int .i64 k ∧ Hid ((ars.take k).all (arcOk n) = true)) (fun i => ars.length - (intOf i).toNat)
      case atStart => exact ⟨0, Nat.zero_le _, rfl, Lib.hid rfl⟩
      case round =>
        obtain ⟨k, hk, rfl, HA⟩ := hrel
        by_cases hlt : k < ars.length
        · obtain ⟨b, off, rfl, hc0, hc1⟩ := rd_arc RD.out hlt
          have h0k : (0 : Int) ≤ (k : Int) := by omega
          have HN := Lib.hid (graph_no3 (n := n) hlt)
          have HS := Lib.hid (all_succ (n := n) hlt HA.out)
          by_cases c1 : inB ars[k].1 0 (n - 1) = true
          · by_cases c2 : inB ars[k].2 0 (n - 1) = true
            · go_wp2_with (go_at_call 29; refine (spec_l01In _ _ _ _).mono ?_; rintro e w' ⟨rfl, rfl⟩)
              go_round
              case rel => exact ⟨k + 1, by omega, by go_num, Lib.hid (HS.out (by simp [arcOk, c1, c2]))⟩
              case measure => simp [intOf]; omega
            · have c2' := bool_no c2
              go_wp2_with (go_at_call 29; refine (spec_l01In _ _ _ _).mono ?_; rintro e w' ⟨rfl, rfl⟩)
              go_ret
              exact ⟨ret_bool (HN.out (by simp [arcOk, c2'])).symm, rfl⟩
          · have c1' := bool_no c1
            go_wp2_with (go_at_call 29; refine (spec_l01In _ _ _ _).mono ?_; rintro e w' ⟨rfl, rfl⟩)
            go_ret
            exact ⟨ret_bool (HN.out (by simp [arcOk, c1'])).symm, rfl⟩
        · go_wp2_with fail
          go_ret
          have := HA.out
          rw [List.take_of_length_le (by omega)] at this
          exact ⟨ret_bool (graph_yes g1 (by omega) this).symm, rfl⟩
  · have g1' := bool_no g1
    have F := Lib.hid (graph_no1 (ars := ars) g1')
    go_enter Try.func26, Try.ntmps26
    go_wp2_with (go_at_call 29; refine (spec_l01In _ _ _ _).mono ?_; rintro e w' ⟨rfl, rfl⟩)
    go_ret
    exact ⟨ret_bool F.out.symm, rfl⟩
set_option maxHeartbeats 400000 in
theorem impl_GraphOk (n : Int) (v : Value) (ars : List Arc2) (w : World) (h : IsArcs w v ars) :
    Calls Try.prog 11 #[.int .i64 n, v] w fun e w' => e = .returned (.bool (graphB n ars)) ∧ Below w.heap.size w w' := by
  obtain ⟨A, c, rfl, h2, h3, rd⟩ := h
  unfold maxLen at h3
  have RD := Lib.hid rd
  clear rd
  by_cases g1 : n < 0
  · have F := Lib.hid (graph_no1 (ars := ars) (inB_no (x := n) (a := 0) (b := 60) (.inl g1)))
    go_enter Try.func11, Try.ntmps11
    go_wp2_with fail
    go_ret
    exact ⟨ret_bool F.out.symm, Below.refl _ _⟩
  by_cases g2 : 60 < n
  · have F := Lib.hid (graph_no1 (ars := ars) (inB_no (x := n) (a := 0) (b := 60) (.inr g2)))
    go_enter Try.func11, Try.ntmps11
    go_wp2_with fail
    go_ret
    exact ⟨ret_bool F.out.symm, Below.refl _ _⟩
  by_cases g3 : 2000 < ars.length
  · have F := Lib.hid (graph_no2 (n := n) g3)
    go_enter Try.func11, Try.ntmps11
    go_wp2_with fail
    go_ret
    exact ⟨ret_bool F.out.symm, Below.refl _ _⟩
  have G := Lib.hid (inB_yes (x := n) (a := 0) (b := 60) (by omega) (by omega))
  go_enter Try.func11, Try.ntmps11
  go_wp2_with fail
  go_loopw [20] (fun i wr => ∃ k : Nat, k ≤ ars.length ∧ i = .int .i64 k ∧ Below w.heap.size w wr ∧ Hid ((ars.take k).all (arcOk n) = true)) (fun i _ => ars.length - (intOf i).toNat)
  case atStart => exact ⟨0, Nat.zero_le _, rfl, Below.refl _ _, Lib.hid rfl⟩
  case round =>
    obtain ⟨k, hk, rfl, hb, HA⟩ := hrel
    have HB := Lib.hid hb
    clear hb
    by_cases hlt : k < ars.length
    · obtain ⟨b, off, rfl, hc0, hc1⟩ := rd_arc (RD.out.below HB.out) hlt
      have h0k : (0 : Int) ≤ (k : Int) := by omega
      have HN := Lib.hid (graph_no3 (n := n) hlt)
      have HS := Lib.hid (all_succ (n := n) hlt HA.out)
      by_cases c1 : ars[k].1 < 0
      · have X := Lib.hid (HN.out (by simp only [arcOk, inB_no (.inl c1), Bool.false_and]))
        go_wp2_with fail
        go_ret
        exact ⟨ret_bool X.out.symm, HB.out.alloc HB.out.size _⟩
      by_cases c2 : n ≤ ars[k].1
      · have X := Lib.hid (HN.out (by simp only [arcOk, inB_no (x := ars[k].1) (a := 0) (b := n - 1) (.inr (by omega)), Bool.false_and]))
        go_wp2_with fail
        go_ret
        exact ⟨ret_bool X.out.symm, HB.out.alloc HB.out.size _⟩
      by_cases c3 : ars[k].2 < 0
      · have X := Lib.hid (HN.out (by simp only [arcOk, inB_no (.inl c3), Bool.and_false]))
        go_wp2_with fail
        go_ret
        exact ⟨ret_bool X.out.symm, HB.out.alloc HB.out.size _⟩
      by_cases c4 : n ≤ ars[k].2
      · have X := Lib.hid (HN.out (by simp only [arcOk, inB_no (x := ars[k].2) (a := 0) (b := n - 1) (.inr (by omega)), Bool.and_false]))
        go_wp2_with fail
        go_ret
        exact ⟨ret_bool X.out.symm, HB.out.alloc HB.out.size _⟩
      have X := Lib.hid (HS.out (by simp only [arcOk, inB_yes (x := ars[k].1) (a := 0) (b := n - 1) (by omega) (by omega), inB_yes (x := ars[k].2) (a := 0) (b := n - 1) (by omega) (by omega), Bool.and_self]))
      go_wp2_with fail
      go_roundw
      case rel => exact ⟨k + 1, by omega, by go_num, HB.out.alloc HB.out.size _, X⟩
      case measure => simp [intOf]; omega
    · go_wp2_with fail
      go_ret
      have := HA.out
      rw [List.take_of_length_le (by omega)] at this
      exact ⟨ret_bool (graph_yes G.out (by omega) this).symm, HB.out⟩
end Go.Proofs.Ytfnjllaaadhbbaa
