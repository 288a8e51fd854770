/- Lists of numbers, and lists of such lists: the contracts of the laws' helpers that measure, copy and compare them, of CompAt in the program and in the reference, and the law over them. -/
import Derived.Test.YtbjnagnkekibdaaArcs
import Derived.Test.YtbjnagnkekibdaaStrs
namespace Go.Proofs.Ytbjnagnkekibdaa
open Go.RowKit
set_option linter.unusedVariables false

def IsInts (w : World) (v : Value) (zs : List Int) : Prop := ∃ A c, v = .slice A zs.length c ∧ zs.length ≤ c ∧ c ≤ maxLen ∧ Rd w 1 A zs.length (zs.map (Value.int .i64))
theorem IsInts.below {w w' : World} {v : Value} {zs : List Int} (h : IsInts w v zs) (hb : Below w.heap.size w w') : IsInts w' v zs := by
  obtain ⟨A, c, e, h1, h2, h3⟩ := h
  exact ⟨A, c, e, h1, h2, h3.below hb⟩
theorem rd_int {w : World} {A : Option Addr} {zs : List Int} (rd : Rd w 1 A zs.length (zs.map (Value.int .i64))) {k : Nat} (hk : k < zs.length) : ∃ b off, A = some ⟨b, off, none⟩ ∧ w.cell? ⟨b, off + k, none⟩ = some (.int .i64 zs[k]) := by
  obtain ⟨b, off, e, hc⟩ := rd.2 (by omega)
  exact ⟨b, off, e, hc k _ (by simp [hk])⟩
theorem flat_ints (zs : List Int) : zs.flatMap (fun z => [Value.int .i64 z]) = zs.map (Value.int .i64) := by
  induction zs with
  | nil => rfl
  | cons z r ih => rw [List.flatMap_cons, ih]; rfl
theorem ints_of_rows {w : World} {v : Value} {zs : List Int} (h : IsRows 1 (fun z => [Value.int .i64 z]) w v zs) : IsInts w v zs := by
  obtain ⟨A, c, e, h1, h2, rd⟩ := h
  refine ⟨A, c, e, h1, h2, ?_⟩
  rw [← flat_ints]; exact rd
/-- the same, its row made since block lo -/
def IsIntsF (lo : Nat) (w : World) (v : Value) (zs : List Int) : Prop := ∃ A c, v = .slice A zs.length c ∧ zs.length ≤ c ∧ c ≤ maxLen ∧ Rd w 1 A zs.length (zs.map (Value.int .i64)) ∧ ∀ b off, A = some ⟨b, off, none⟩ → 0 < zs.length → lo ≤ b
theorem IsIntsF.is {lo : Nat} {w : World} {v : Value} {zs : List Int} (h : IsIntsF lo w v zs) : IsInts w v zs := by
  obtain ⟨A, c, e, h1, h2, h3, _⟩ := h
  exact ⟨A, c, e, h1, h2, h3⟩
theorem IsIntsF.below {lo : Nat} {w w' : World} {v : Value} {zs : List Int} (h : IsIntsF lo w v zs) (hb : Below w.heap.size w w') : IsIntsF lo w' v zs := by
  obtain ⟨A, c, e, h1, h2, h3, h4⟩ := h
  exact ⟨A, c, e, h1, h2, h3.below hb, h4⟩
theorem Rd.set_other {w : World} {sz n : Nat} {A : Option Addr} {xs : List Value} (h : Rd w sz A n xs) {p : Addr} (hp : ∀ b off, A = some ⟨b, off, none⟩ → 0 < n → b ≠ p.block) (u : Value) : Rd (w.setCell p u) sz A n xs :=
  ⟨h.1, fun hn => by
    obtain ⟨b, off, e, hc⟩ := h.2 hn
    exact ⟨b, off, e, fun j v hv => by rw [World.cell?_setCell_other w p _ u (fun e2 => by subst e2; exact hp b off e hn rfl)]; exact hc j v hv⟩⟩
theorem IsIntsF.set_other {lo : Nat} {w : World} {v : Value} {zs : List Int} (h : IsIntsF lo w v zs) {p : Addr} (hp : p.block < lo) (u : Value) : IsIntsF lo (w.setCell p u) v zs := by
  obtain ⟨A, c, e, h1, h2, h3, h4⟩ := h
  exact ⟨A, c, e, h1, h2, h3.set_other (fun b off hb hn => by have := h4 b off hb hn; omega) u, h4⟩
theorem IsIntsF.of_own {w0 w : World} {e : TypeId} {v : Value} {zs : List Int} {lo : Nat} (h : Own w0 w e 1 v zs.length (zs.map (Value.int .i64))) (hlo : lo ≤ w0.heap.size) : IsIntsF lo w v zs := by
  obtain ⟨A, c, rfl, hc⟩ := h.slice
  refine ⟨A, c, rfl, hc, own_cap' h, h.rd, fun b off hb hn => ?_⟩
  subst hb
  have := (h.1.lt b rfl).1
  omega
def IsIntss (w : World) (v : Value) (zss : List (List Int)) : Prop := IsRowsR 1 (fun cs zs => ∃ u, cs = [u] ∧ IsInts w u zs) w v zss
theorem IsIntss.below {w w' : World} {v : Value} {zss : List (List Int)} (h : IsIntss w v zss) (hb : Below w.heap.size w w') : IsIntss w' v zss := by
  obtain ⟨A, c, cs, e, h1, h2, rd, hx⟩ := h
  refine ⟨A, c, cs, e, h1, h2, rd.below hb, fun k hk => ?_⟩
  obtain ⟨u, e1, hu⟩ := hx k hk
  exact ⟨u, e1, hu.below hb⟩
/-- element k: its cell holds a slice that reads as it -/
theorem rd_ints {w : World} {A : Option Addr} {zss : List (List Int)} {cs : List Value} (rd : Rd w 1 A zss.length cs) (hx : ∀ k (h : k < zss.length), ∃ u, (cs.drop (k * 1)).take 1 = [u] ∧ IsInts w u zss[k]) {k : Nat} (hk : k < zss.length) :
    ∃ b off A' c', A = some ⟨b, off, none⟩ ∧ w.cell? ⟨b, off + k, none⟩ = some (.slice A' zss[k].length c') ∧ zss[k].length ≤ c' ∧ c' ≤ maxLen ∧ IsInts w (.slice A' zss[k].length c') zss[k] := by
  obtain ⟨b, off, e, hc⟩ := rd.2 (by omega)
  obtain ⟨u, e1, hu⟩ := hx k hk
  have hu' := hu
  obtain ⟨A', c', rfl, h1, h2, _⟩ := hu
  have := chunk_get (sz := 1) (k := k) (r := 0) (by omega) e1
  exact ⟨b, off, A', c', e, hc k _ (by rw [Nat.mul_one, Nat.add_zero] at this; rw [this]; rfl), h1, h2, hu'⟩
theorem intT : ElemT Try.prog 40 3 1 8 := ElemT.mk' (z := .int .i64 0) Try.underlying40 (by kernel_rfl) rfl (by decide)
theorem intZ : (Try.prog.info? 3).map (fun i => i.zero) = some (some (.int .i64 0)) := by kernel_rfl
theorem intsT : ElemT Try.prog 33 40 1 24 := ElemT.mk' (z := .slice none 0 0) Try.underlying33 (by kernel_rfl) rfl (by decide)
theorem intsZ : (Try.prog.info? 40).map (fun i => i.zero) = some (some (.slice none 0 0)) := by kernel_rfl
theorem open_ints_at {H : Type} {enc : TypeId × Value → H} {w : World} {base : Nat} {spare : Nat → Bool} {held : Bool} {fuel : Nat} {cs : List Value} {y : DataW H × List MemPlace} (hf : DataW.trod enc Try.prog w base spare held fuel 40 cs = some y) :
    ∃ u zs, cs = [u] ∧ IsInts w u zs ∧ ∀ z ∈ zs, i64ok z := by
  obtain ⟨u, zs, hu, hr⟩ := open_cells (R := fun cs (z : Int) => cs = [Value.int .i64 z] ∧ i64ok z) (by decide) Try.underlying40 (by kernel_rfl : Try.prog.cellsOf 3 = 1) hf (fun n cs y _ hy => by
    obtain ⟨z, e, _, wf⟩ := DataW.trod_int Try.underlying3 hy
    exact ⟨z, e, i64ok_of wf⟩)
  exact ⟨u, zs, hu, ints_of_rows hr.rows.1, hr.rows.2⟩
theorem open_ints_arg {H : Type} {enc : TypeId × Value → H} {w : World} {r : Reach} {b0 base : Nat} {spare : Nat → Bool} {held : Bool} {v : Value} {d : DataW H} {p : List MemPlace} (hv : Value.okWide Try.prog w r b0 40 v) (h : DataW.Trod enc Try.prog w base spare held 40 v d p) :
    ∃ zs, IsInts w v zs ∧ ∀ z ∈ zs, i64ok z := by
  obtain ⟨a0, len, cap, rfl⟩ := Go.WideShapes.okWide_slice Try.underlying40 hv
  obtain ⟨fuel, hf⟩ := h
  obtain ⟨u, zs, hu, h1, h2⟩ := open_ints_at hf
  simp only [Value.cells, List.cons.injEq, and_true] at hu
  subst hu
  exact ⟨zs, h1, h2⟩
theorem open_intss {H : Type} {enc : TypeId × Value → H} {w : World} {r : Reach} {b0 base : Nat} {spare : Nat → Bool} {held : Bool} {v : Value} {d : DataW H} {p : List MemPlace} (hv : Value.okWide Try.prog w r b0 33 v) (h : DataW.Trod enc Try.prog w base spare held 33 v d p) :
    ∃ zss, IsIntss w v zss := by
  obtain ⟨a0, len, cap, rfl⟩ := Go.WideShapes.okWide_slice Try.underlying33 hv
  obtain ⟨fuel, hf⟩ := h
  obtain ⟨u, zss, hu, hr⟩ := open_cells (R := fun cs zs => ∃ u, cs = [u] ∧ IsInts w u zs) (by decide) Try.underlying33 (by kernel_rfl : Try.prog.cellsOf 40 = 1) hf (fun n cs y _ hy => by
    obtain ⟨u, zs, e, hi, _⟩ := open_ints_at hy
    exact ⟨zs, u, e, hi⟩)
  simp only [Value.cells, List.cons.injEq, and_true] at hu
  subst hu
  exact ⟨zss, hr⟩
set_option maxHeartbeats 400000 in
theorem laws_toIntS (v : Value) (zs : List Int) (w : World) (h : IsInts w v zs) (h1 : zs.length ≤ 1048576) :
    Calls Try.prog 74 #[v] w fun e w' => ∃ v', e = .returned v' ∧ Own w w' 3 1 v' zs.length (zs.map (Value.int .i64)) := by
  obtain ⟨A, c, rfl, h2, h3, rd⟩ := h
  unfold maxLen at h3
  have RD := Lib.hid rd
  clear rd
  go_enter Try.func74, Try.ntmps74
  go_wp2_with (at_make; refine wpList_mk1 rfl _ _ 40 rfl intT _ intZ rfl (Below.refl _ _) _ _ _ _ zs.length rfl rfl rfl rfl (by omega) (by simp only [maxLen]; omega) ?_; intro g w1 own1)
  go_loopw [4] (fun i wr => ∃ k : Nat, k ≤ zs.length ∧ i = .int .i64 k ∧ Own w wr 3 1 (.slice (some ⟨g, 0, none⟩) zs.length zs.length) zs.length (part (zs.map (Value.int .i64)) (.int .i64 0) k)) (fun i _ => zs.length - (intOf i).toNat)
  case atStart => exact ⟨0, Nat.zero_le _, rfl, by rw [part_zero]; simpa using own1⟩
  case round =>
    obtain ⟨k, hk, rfl, own⟩ := hrel
    have OW := Lib.hid own
    clear own own1
    by_cases hlt : k < zs.length
    · have hlt' : k < (zs.map (Value.int .i64)).length := by simpa using hlt
      obtain ⟨b, off, rfl, hcell⟩ := rd_int (RD.out.below OW.out.2) hlt
      have hold := OW.out.cellAt (j := k) (by omega) (part_get _ _ hlt')
      have hfree := OW.out.freeAt k
      have OS := Lib.hid (OW.out.set k (.int .i64 zs[k]))
      have e := part_set (zs.map (Value.int .i64)) (.int .i64 0) hlt'
      simp only [List.getElem_map] at e
      have HE := Lib.hid e
      have h0k : (0 : Int) ≤ (k : Int) := by omega
      clear e
      go_wp2_with fail
      go_roundw
      case rel => exact ⟨k + 1, by omega, by go_num, by rw [← HE.out]; exact OS.out⟩
      case measure => simp [intOf]; omega
    · have OE := OW.out
      rw [part_all _ _ (by simp; omega)] at OE
      have OB := Lib.hid OE
      clear OE OW
      go_wp2_with fail
      go_ret
      exact ⟨_, rfl, OB.out⟩
set_option maxHeartbeats 400000 in
theorem laws_eqIntS (v u : Value) (ss tt : List Int) (w : World) (h : IsInts w v ss) (h' : IsInts w u tt) :
    Calls Try.prog 75 #[v, u] w fun e w' => e = .returned (.bool (decide (ss = tt))) ∧ Qt w w' := by
  obtain ⟨A, c, rfl, h2, h3, rd⟩ := h
  obtain ⟨A', c', rfl, h2', h3', rd'⟩ := h'
  unfold maxLen at h3 h3'
  have RD := Lib.hid rd
  have RD' := Lib.hid rd'
  clear rd rd'
  by_cases g0 : ss.length = tt.length
  · have g1 : ((ss.length : Int) != (tt.length : Int)) = false := by simp [g0]
    have G := Lib.hid g0
    clear g0
    go_enter Try.func75, Try.ntmps75
    go_wp2_with fail
    go_loopw [5] (fun i wr => ∃ (k m : Nat), k ≤ ss.length ∧ i = .int .i64 k ∧ wr = w.drewN m ∧ Hid (ss.take k = tt.take k)) (fun i _ => ss.length - (intOf i).toNat)
    case atStart => exact ⟨0, 0, Nat.zero_le _, rfl, rfl, Lib.hid rfl⟩
    case round =>
      obtain ⟨k, m, hk, rfl, rfl, HT⟩ := hrel
      by_cases hlt : k < ss.length
      · have hlt' : k < tt.length := by rw [← G.out]; exact hlt
        obtain ⟨b, off, rfl, hcell⟩ := rd_int RD.out hlt
        obtain ⟨b', off', rfl, hcell'⟩ := rd_int RD'.out hlt'
        have h0k : (0 : Int) ≤ (k : Int) := by omega
        have h1k : (k : Int) < (ss.length : Int) := by omega
        have h2k : (k : Int) < (tt.length : Int) := by omega
        by_cases e : ss[k] = tt[k]
        · have HE := Lib.hid e
          have q : (ss[k] != tt[k]) = false := by simp [e]
          clear e
          go_wp2_with fail
          go_quiet (fail)
          go_wp2_with fail
          go_roundw
          case rel => exact ⟨k + 1, _, by omega, by go_num, rfl, Lib.hid (take_eq_succ HT.out hlt hlt' HE.out)⟩
          case measure => simp [intOf]; omega
        · have HE := Lib.hid e
          have q : (ss[k] != tt[k]) = true := by simpa using e
          clear e
          go_wp2_with fail
          go_quiet (fail)
          go_wp2_with fail
          go_ret
          exact ⟨ret_bool (decide_no (fun e => HE.out (by subst e; rfl))).symm, (Qt.of_drewN _ _).trans (Qt.of_drewN _ _)⟩
      · go_wp2_with fail
        go_ret
        have e : ss = tt := by
          have := HT.out
          rwa [List.take_of_length_le (by omega), List.take_of_length_le (by rw [← G.out]; omega)] at this
        exact ⟨ret_bool (decide_eq_true e).symm, ⟨_, rfl⟩⟩
  · have g1 : ((ss.length : Int) != (tt.length : Int)) = true := by simp; omega
    have G := Lib.hid g0
    clear g0
    go_enter Try.func75, Try.ntmps75
    go_wp2_with fail
    go_ret
    exact ⟨ret_bool (decide_no (fun e => G.out (by rw [e]))).symm, Qt.refl _⟩
theorem laws_szIntS (v : Value) (zs : List Int) (left : Int) (w : World) (h : IsInts w v zs) (h0 : 0 ≤ left) (h1 : left ≤ 1048576) :
    Calls Try.prog 72 #[v, .int .i64 left] w fun e w' => e = .returned (.int .i64 (cut0 (left - (zs.length : Int)))) ∧ w = w' := by
  obtain ⟨A, c, rfl, h2, h3, rd⟩ := h
  unfold maxLen at h3
  clear rd
  by_cases g : left - (zs.length : Int) < 0
  · rw [cut0_neg g]
    go_enter Try.func72, Try.ntmps72
    go_wp2_with fail
    go_ret
    exact ⟨rfl, rfl⟩
  · rw [cut0_pos (by omega)]
    go_enter Try.func72, Try.ntmps72
    go_wp2_with fail
    go_ret
    exact ⟨rfl, rfl⟩
def totSS (zss : List (List Int)) : Nat := zss.length + (zss.map List.length).sum
set_option maxHeartbeats 400000 in
theorem laws_szIntSS (v : Value) (zss : List (List Int)) (left : Int) (w : World) (h : IsIntss w v zss) (h0 : 0 ≤ left) (h1 : left ≤ 1048576) :
    Calls Try.prog 43 #[v, .int .i64 left] w fun e w' => e = .returned (.int .i64 (cut0 (left - (totSS zss : Int)))) ∧ w = w' := by
  obtain ⟨A, c, cs, rfl, h2, h3, rd, hx⟩ := h
  unfold maxLen at h3
  have RD := Lib.hid rd
  have HX := Lib.hid hx
  clear rd hx
  by_cases g0 : left - (zss.length : Int) < 0
  · have F := Lib.hid (cut0_neg (n := left - (totSS zss : Int)) (by unfold totSS; omega))
    go_enter Try.func43, Try.ntmps43
    go_wp2_with fail
    go_ret
    exact ⟨ret_int F.out.symm, rfl⟩
  · go_enter Try.func43, Try.ntmps43
    go_wp2_with fail
    go_loop [1, 5] (fun l i => ∃ (k : Nat) (m : Int), k ≤ zss.length ∧ i = .int .i64 k ∧ l = .int .i64 m ∧ 0 ≤ m ∧ m ≤ left ∧ Hid (m = left - (zss.length : Int) - (((zss.map List.length).take k).sum : Int))) (fun _ i => zss.length - (intOf i).toNat)
    case atStart => exact ⟨0, _, Nat.zero_le _, rfl, rfl, by omega, by omega, Lib.hid (by simp)⟩
    case round =>
      obtain ⟨k, m, hk, rfl, rfl, hm0, hm1, HM⟩ := hrel
      by_cases hlt : k < zss.length
      · obtain ⟨b, off, A', c', rfl, hcell, _, _, hin⟩ := rd_ints RD.out HX.out hlt
        have HI := Lib.hid hin
        clear hin
        have HS := Lib.hid (sum_take (zss.map List.length) k (by simpa using hlt))
        have HL := Lib.hid (sum_take_le (zss.map List.length) (k + 1))
        have h0k : (0 : Int) ≤ (k : Int) := by omega
        by_cases g1 : m - (zss[k].length : Int) < 0
        · have C := Lib.hid (cut0_neg g1)
          go_wp2_with fail
          refine (laws_szIntS _ _ _ _ HI.out hm0 (by omega)).mono ?_
          rintro e w' ⟨rfl, rfl⟩
          rw [C.out]
          go_wp2_with fail
          go_ret
          refine ⟨ret_int ?_, rfl⟩
          have e1 := HS.out
          have e2 := HL.out
          have e3 := HM.out
          simp only [List.getElem_map] at e1
          exact (cut0_neg (by unfold totSS; omega)).symm
        · have C := Lib.hid (cut0_pos (n := m - (zss[k].length : Int)) (by omega))
          go_wp2_with fail
          refine (laws_szIntS _ _ _ _ HI.out hm0 (by omega)).mono ?_
          rintro e w' ⟨rfl, rfl⟩
          rw [C.out]
          go_wp2_with fail
          go_round
          case rel =>
            refine ⟨k + 1, m - (zss[k].length : Int), by omega, by go_num, rfl, by omega, by omega, Lib.hid ?_⟩
            have e1 := HS.out
            have e3 := HM.out
            simp only [List.getElem_map] at e1
            omega
          case measure => simp [intOf]; omega
      · go_wp2_with fail
        go_ret
        refine ⟨ret_int ?_, rfl⟩
        have e3 := HM.out
        rw [List.take_of_length_le (by simp; omega)] at e3
        rw [cut0_pos (by unfold totSS; omega)]
        unfold totSS
        omega
theorem part_left {us : List Value} {n : Nat} {z : Value} (h : us.length < n) : (us ++ List.replicate (n - us.length) z)[us.length]? = some z := by
  rw [List.getElem?_append_right (Nat.le_refl _), Nat.sub_self, List.getElem?_replicate, if_pos (by omega)]
theorem part_left_set {us : List Value} {n : Nat} {z u : Value} (h : us.length < n) : (us ++ List.replicate (n - us.length) z).set us.length u = (us ++ [u]) ++ List.replicate (n - (us ++ [u]).length) z := by
  have e : n - us.length = (n - (us ++ [u]).length) + 1 := by simp; omega
  rw [List.set_append_right _ _ (Nat.le_refl _), Nat.sub_self, e, List.replicate_succ, List.set_cons_zero]
  simp
set_option maxHeartbeats 400000 in
theorem laws_toIntSS (v : Value) (zss : List (List Int)) (w : World) (h : IsIntss w v zss) (h1 : zss.length ≤ 1048576) (hz : ∀ zs ∈ zss, zs.length ≤ 1048576) :
    Calls Try.prog 45 #[v] w fun e w' => ∃ v', e = .returned v' ∧ IsIntss w' v' zss ∧ Below w.heap.size w w' := by
  obtain ⟨A, c, cs, rfl, h2, h3, rd, hx⟩ := h
  unfold maxLen at h3
  have RD := Lib.hid rd
  have HX := Lib.hid hx
  have HZ := Lib.hid hz
  clear rd hx hz
  go_enter Try.func45, Try.ntmps45
  go_wp2_with (at_make; refine wpList_mkN rfl _ _ 33 rfl intsT (fun u : Value => [u]) (fun _ => rfl) (.slice none 0 0) _ intsZ rfl (Below.refl _ _) _ _ _ _ zss.length rfl rfl rfl rfl (by omega) (by simp only [maxLen]; omega) ?_; intro w1 own1 hlt1 hg1)
  go_loopw [4] (fun i wr => ∃ us : List Value, us.length ≤ zss.length ∧ i = .int .i64 (us.length : Int) ∧ Own w wr 40 1 (.slice (some ⟨w.heap.size, 0, none⟩) zss.length zss.length) zss.length (us ++ List.replicate (zss.length - us.length) (.slice none 0 0)) ∧ w.heap.size < wr.heap.size ∧ Hid (∀ k (hk : k < zss.length) (hk' : k < us.length), IsIntsF (w.heap.size + 1) wr us[k] zss[k])) (fun i _ => zss.length - (intOf i).toNat)
  case atStart => exact ⟨[], Nat.zero_le _, rfl, by simpa using own1, hlt1, Lib.hid (fun k _ hk => absurd hk (by simp))⟩
  case round =>
    obtain ⟨us, hk, rfl, own, hsz, HU⟩ := hrel
    have OW := Lib.hid own
    clear own own1 hlt1 hg1
    by_cases hlt : us.length < zss.length
    · obtain ⟨b, off, A', c', rfl, hcell0, _, _, hin⟩ := rd_ints RD.out HX.out hlt
      have hcell := cell_keep OW.out.2 hcell0
      have HI := Lib.hid (hin.below OW.out.2)
      clear hin hcell0
      have h0k : (0 : Int) ≤ (us.length : Int) := by omega
      go_wp2_with fail
      refine (laws_toIntS _ _ _ HI.out (HZ.out _ (List.getElem_mem hlt))).mono ?_
      rintro e w1 ⟨u, rfl, own1⟩
      have O1 := Lib.hid own1
      clear own1
      have O2 := Lib.hid (OW.out.below O1.out.2)
      have hold := O2.out.cellAt (j := us.length) (by omega) (part_left hlt)
      have hfree := O2.out.freeAt us.length
      have OS := O2.out.set us.length u
      rw [part_left_set hlt] at OS
      have O3 := Lib.hid OS
      clear OS
      have hu : Hid (∀ k (hk : k < zss.length) (hk' : k < (us ++ [u]).length), IsIntsF (w.heap.size + 1) (w1.setCell ⟨w.heap.size, us.length, none⟩ u) (us ++ [u])[k] zss[k]) := by
        refine Lib.hid fun k hk hk' => IsIntsF.set_other ?_ (by simp) u
        by_cases e : k < us.length
        · rw [List.getElem_append_left e]; exact (HU.out k hk e).below O1.out.2
        · have e2 : k = us.length := by simp at hk'; omega
          subst e2
          simp only [List.getElem_concat_length]
          exact IsIntsF.of_own O1.out hsz
      have hs1 := O1.out.2.size
      obtain ⟨A1, c1, hA1, _⟩ := O1.out.slice
      rw [hA1] at hu O3 ⊢
      go_wp2_with fail
      go_roundw
      case rel => exact ⟨us ++ [.slice A1 zss[us.length].length c1], by simp; omega, by simp, O3.out, by simp; omega, hu⟩
      case measure => simp [intOf]; omega
    · have e : us.length = zss.length := by omega
      have OE := OW.out
      rw [e, Nat.sub_self, List.replicate_zero, List.append_nil] at OE
      have HE := Lib.hid e
      have OB := Lib.hid OE
      clear OE OW e
      go_wp2_with fail
      go_ret
      refine ⟨_, rfl, ⟨_, _, us, rfl, Nat.le_refl _, by simp only [maxLen]; omega, OB.out.rd, fun k hk => ?_⟩, OB.out.2⟩
      have hk' : k < us.length := by rw [HE.out]; exact hk
      refine ⟨us[k], ?_, (HU.out k hk hk').is⟩
      rw [Nat.mul_one, List.drop_eq_getElem_cons hk']
      rfl
set_option maxHeartbeats 400000 in
theorem laws_eqIntSS (v u : Value) (ss tt : List (List Int)) (w : World) (h : IsIntss w v ss) (h' : IsIntss w u tt) :
    Calls Try.prog 46 #[v, u] w fun e w' => e = .returned (.bool (decide (ss = tt))) ∧ Below w.heap.size w w' := by
  obtain ⟨A, c, cs, rfl, h2, h3, rd, hx⟩ := h
  obtain ⟨A', c', cs', rfl, h2', h3', rd', hx'⟩ := h'
  unfold maxLen at h3 h3'
  have RD := Lib.hid rd
  have RD' := Lib.hid rd'
  have HX := Lib.hid hx
  have HX' := Lib.hid hx'
  clear rd rd' hx hx'
  by_cases g0 : ss.length = tt.length
  · have g1 : ((ss.length : Int) != (tt.length : Int)) = false := by simp [g0]
    have G := Lib.hid g0
    clear g0
    go_enter Try.func46, Try.ntmps46
    go_wp2_with fail
    go_loopw [5] (fun i wr => ∃ k : Nat, k ≤ ss.length ∧ i = .int .i64 k ∧ Below w.heap.size w wr ∧ Hid (ss.take k = tt.take k)) (fun i _ => ss.length - (intOf i).toNat)
    case atStart => exact ⟨0, Nat.zero_le _, rfl, Below.refl _ _, Lib.hid rfl⟩
    case round =>
      obtain ⟨k, hk, rfl, hb, HT⟩ := hrel
      have HB := Lib.hid hb
      clear hb
      by_cases hlt : k < ss.length
      · have hlt' : k < tt.length := by rw [← G.out]; exact hlt
        obtain ⟨b, off, B, d, rfl, hc0, _, _, hin⟩ := rd_ints RD.out HX.out hlt
        obtain ⟨b', off', B', d', rfl, hd0, _, _, hin'⟩ := rd_ints RD'.out HX'.out hlt'
        have hc := cell_keep HB.out hc0
        have hd := cell_keep HB.out hd0
        have HI := Lib.hid (hin.below HB.out)
        have HI' := Lib.hid (hin'.below HB.out)
        clear hc0 hd0 hin hin'
        have h0k : (0 : Int) ≤ (k : Int) := by omega
        have h1k : (k : Int) < (ss.length : Int) := by omega
        have h2k : (k : Int) < (tt.length : Int) := by omega
        by_cases e : ss[k] = tt[k]
        · have HE := Lib.hid e
          have q := decide_eq_true e
          clear e
          go_wp2_with fail
          go_region_held3 (fun w' => w'.cell? ⟨b, off + k, none⟩ = some (.slice B ss[k].length d) ∧ w'.cell? ⟨b', off' + k, none⟩ = some (.slice B' tt[k].length d'))
            (first | go_keep | exact ⟨cell_keep b1.below hc, cell_keep b1.below hd⟩)
            (first | (go_at_call 75; refine (laws_eqIntS _ _ ss[k] tt[k] _ (by exact HI.out) (by exact HI'.out)).mono ?_; rintro e w1 ⟨rfl, b1⟩))
          all_goals
            go_wp2_with fail
            go_roundw
            case rel => exact ⟨k + 1, by omega, by go_num, HB.out.drew.trans (b1.below.mono HB.out.size), Lib.hid (take_eq_succ HT.out hlt hlt' HE.out)⟩
            case measure => simp [intOf]; omega
        · have HE := Lib.hid e
          have q := decide_no e
          clear e
          go_wp2_with fail
          go_region_held3 (fun w' => w'.cell? ⟨b, off + k, none⟩ = some (.slice B ss[k].length d) ∧ w'.cell? ⟨b', off' + k, none⟩ = some (.slice B' tt[k].length d'))
            (first | go_keep | exact ⟨cell_keep b1.below hc, cell_keep b1.below hd⟩)
            (first | (go_at_call 75; refine (laws_eqIntS _ _ ss[k] tt[k] _ (by exact HI.out) (by exact HI'.out)).mono ?_; rintro e w1 ⟨rfl, b1⟩))
          all_goals
            go_wp2_with fail
            go_ret
            exact ⟨ret_bool (decide_no (fun e => HE.out (by subst e; rfl))).symm, HB.out.drew.trans (b1.below.mono HB.out.size)⟩
      · go_wp2_with fail
        go_ret
        have e : ss = tt := by
          have := HT.out
          rwa [List.take_of_length_le (by omega), List.take_of_length_le (by rw [← G.out]; omega)] at this
        exact ⟨ret_bool (decide_eq_true e).symm, HB.out⟩
  · have g1 : ((ss.length : Int) != (tt.length : Int)) = true := by simp; omega
    have G := Lib.hid g0
    clear g0
    go_enter Try.func46, Try.ntmps46
    go_wp2_with fail
    go_ret
    exact ⟨ret_bool (decide_no (fun e => G.out (by rw [e]))).symm, Below.refl _ _⟩
def hasB (zs : List Int) (n : Int) : Bool := zs.any (fun z => z == n)
theorem has_at {zs : List Int} {n : Int} {k : Nat} (hk : k < zs.length) (h : (zs[k] == n) = true) : hasB zs n = true := by
  unfold hasB; rw [List.any_eq_true]; exact ⟨zs[k], List.getElem_mem hk, h⟩
theorem has_no {zs : List Int} {n : Int} (h : ∀ z ∈ zs, (z == n) = false) : hasB zs n = false := by
  unfold hasB; rw [List.any_eq_false]; exact fun z hz => by simp [h z hz]
theorem not_yet {zs : List Int} {n : Int} {k : Nat} (h : ∀ z ∈ zs.take k, (z == n) = false) (hk : k < zs.length) (e : (zs[k] == n) = false) : ∀ z ∈ zs.take (k + 1), (z == n) = false := by
  have e1 : zs.take (k + 1) = zs.take k ++ [zs[k]] := List.take_succ_eq_append_getElem hk
  rw [e1]
  intro z hz
  rcases List.mem_append.1 hz with h1 | h1
  · exact h z h1
  · rw [List.mem_singleton.1 h1]; exact e
set_option maxHeartbeats 400000 in
theorem spec_l09Has (v : Value) (zs : List Int) (n : Int) (w : World) (h : IsInts w v zs) :
    Calls Try.prog 73 #[v, .int .i64 n] w fun e w' => e = .returned (.bool (hasB zs n)) ∧ w = w' := by
  obtain ⟨A, c, rfl, h2, h3, rd⟩ := h
  unfold maxLen at h3
  have RD := Lib.hid rd
  clear rd
  go_enter Try.func73, Try.ntmps73
  go_wp2_with fail
  go_loop [5] (fun i => ∃ k : Nat, k ≤ zs.length ∧ i = .int .i64 k ∧ Hid (∀ z ∈ zs.take k, (z == n) = false)) (fun i => zs.length - (intOf i).toNat)
  case atStart => exact ⟨0, Nat.zero_le _, rfl, Lib.hid (by simp)⟩
  case round =>
    obtain ⟨k, hk, rfl, HT⟩ := hrel
    by_cases hlt : k < zs.length
    · obtain ⟨b, off, rfl, hcell⟩ := rd_int RD.out hlt
      have h0k : (0 : Int) ≤ (k : Int) := by omega
      by_cases e : (zs[k] == n) = true
      · go_wp2_with fail
        go_ret
        exact ⟨ret_bool (has_at hlt e).symm, rfl⟩
      · have e' := bool_no e
        go_wp2_with fail
        go_round
        case rel => exact ⟨k + 1, by omega, by go_num, Lib.hid (not_yet HT.out hlt e')⟩
        case measure => simp [intOf]; omega
    · go_wp2_with fail
      go_ret
      refine ⟨ret_bool (has_no ?_).symm, rfl⟩
      have := HT.out
      rwa [List.take_of_length_le (by omega)] at this
/-- the first part that has the node; -1 without one -/
def compAt (zss : List (List Int)) (n : Int) : Int := match zss.findIdx? (fun zs => hasB zs n) with | some k => (k : Int) | none => -1
theorem compAt_at {zss : List (List Int)} {n : Int} {k : Nat} (h : ∀ zs ∈ zss.take k, hasB zs n = false) (hk : k < zss.length) (e : hasB zss[k] n = true) : compAt zss n = (k : Int) := by
  have : zss.findIdx? (fun zs => hasB zs n) = some k := by
    rw [List.findIdx?_eq_some_iff_getElem]
    refine ⟨hk, e, fun j hj => ?_⟩
    have := h zss[j] (List.mem_take_iff_getElem.2 ⟨j, by omega, rfl⟩)
    simp [this]
  unfold compAt; rw [this]
theorem compAt_no {zss : List (List Int)} {n : Int} (h : ∀ zs ∈ zss, hasB zs n = false) : compAt zss n = -1 := by
  have : zss.findIdx? (fun zs => hasB zs n) = none := by
    rw [List.findIdx?_eq_none_iff]; exact h
  unfold compAt; rw [this]
theorem not_yetL {zss : List (List Int)} {n : Int} {k : Nat} (h : ∀ zs ∈ zss.take k, hasB zs n = false) (hk : k < zss.length) (e : hasB zss[k] n = false) : ∀ zs ∈ zss.take (k + 1), hasB zs n = false := by
  have e1 : zss.take (k + 1) = zss.take k ++ [zss[k]] := List.take_succ_eq_append_getElem hk
  rw [e1]
  intro z hz
  rcases List.mem_append.1 hz with h1 | h1
  · exact h z h1
  · rw [List.mem_singleton.1 h1]; exact e
set_option maxHeartbeats 400000 in
theorem spec_CompAt (v : Value) (zss : List (List Int)) (n : Int) (w : World) (h : IsIntss w v zss) :
    Calls Try.prog 44 #[v, .int .i64 n] w fun e w' => e = .returned (.int .i64 (compAt zss n)) ∧ w = w' := by
  obtain ⟨A, c, cs, rfl, h2, h3, rd, hx⟩ := h
  unfold maxLen at h3
  have RD := Lib.hid rd
  have HX := Lib.hid hx
  clear rd hx
  go_enter Try.func44, Try.ntmps44
  go_wp2_with fail
  go_loop [5] (fun i => ∃ k : Nat, k ≤ zss.length ∧ i = .int .i64 k ∧ Hid (∀ zs ∈ zss.take k, hasB zs n = false)) (fun i => zss.length - (intOf i).toNat)
  case atStart => exact ⟨0, Nat.zero_le _, rfl, Lib.hid (by simp)⟩
  case round =>
    obtain ⟨k, hk, rfl, HT⟩ := hrel
    by_cases hlt : k < zss.length
    · obtain ⟨b, off, B, d, rfl, hcell, _, _, hin⟩ := rd_ints RD.out HX.out hlt
      have HI := Lib.hid hin
      clear hin
      have h0k : (0 : Int) ≤ (k : Int) := by omega
      by_cases e : hasB zss[k] n = true
      · go_wp2_with (go_at_call 73; refine (spec_l09Has _ zss[k] _ _ HI.out).mono ?_; rintro e w' ⟨rfl, rfl⟩)
        go_ret
        exact ⟨ret_int (compAt_at HT.out hlt e).symm, rfl⟩
      · have e' := bool_no e
        go_wp2_with (go_at_call 73; refine (spec_l09Has _ zss[k] _ _ HI.out).mono ?_; rintro e w' ⟨rfl, rfl⟩)
        go_round
        case rel => exact ⟨k + 1, by omega, by go_num, Lib.hid (not_yetL HT.out hlt e')⟩
        case measure => simp [intOf]; omega
    · go_wp2_with fail
      go_ret
      refine ⟨ret_int (compAt_no ?_).symm, rfl⟩
      have := HT.out
      rwa [List.take_of_length_le (by omega)] at this
set_option maxHeartbeats 400000 in
theorem impl_CompAt (v : Value) (zss : List (List Int)) (n : Int) (w : World) (h : IsIntss w v zss) :
    Calls Try.prog 30 #[v, .int .i64 n] w fun e w' => e = .returned (.int .i64 (compAt zss n)) ∧ w = w' := by
  obtain ⟨A, c, cs, rfl, h2, h3, rd, hx⟩ := h
  unfold maxLen at h3
  have RD := Lib.hid rd
  have HX := Lib.hid hx
  clear rd hx
  go_enter Try.func30, Try.ntmps30
  go_wp2_with fail
  go_loop [11] (fun i => ∃ k : Nat, k ≤ zss.length ∧ i = .int .i64 k ∧ Hid (∀ zs ∈ zss.take k, hasB zs n = false)) (fun i => zss.length - (intOf i).toNat)
  case atStart => exact ⟨0, Nat.zero_le _, rfl, Lib.hid (by simp)⟩
  case round =>
    obtain ⟨k, hk, rfl, HT⟩ := hrel
    by_cases hlt : k < zss.length
    · obtain ⟨b, off, B, d, rfl, hcell, hd, hd2, hin⟩ := rd_ints RD.out HX.out hlt
      unfold maxLen at hd2
      obtain ⟨B1, d1, e1, _, _, rdk⟩ := hin
      injection e1 with e1 _ e2
      subst e1 e2
      have RK := Lib.hid rdk
      clear rdk
      have h0k : (0 : Int) ≤ (k : Int) := by omega
      go_wp2_with fail
      go_loop [18] (fun i => ∃ j : Nat, j ≤ zss[k].length ∧ i = .int .i64 j ∧ Hid (∀ z ∈ zss[k].take j, (z == n) = false)) (fun i => zss[k].length - (intOf i).toNat)
      case atStart => exact ⟨0, Nat.zero_le _, rfl, Lib.hid (by simp)⟩
      case round =>
        obtain ⟨j, hj, rfl, HJ⟩ := hrel
        by_cases hlj : j < zss[k].length
        · obtain ⟨b', off', rfl, hcell'⟩ := rd_int RK.out hlj
          have h0j : (0 : Int) ≤ (j : Int) := by omega
          by_cases e : (zss[k][j] == n) = true
          · go_wp2_with fail
            go_ret
            exact ⟨ret_int (compAt_at HT.out hlt (has_at hlj e)).symm, rfl⟩
          · have e' := bool_no e
            go_wp2_with fail
            go_round
            case rel => exact ⟨j + 1, by omega, by go_num, Lib.hid (not_yet HJ.out hlj e')⟩
            case measure => simp [intOf]; omega
        · have X : Hid (hasB zss[k] n = false) := by
            refine Lib.hid (has_no ?_)
            have := HJ.out
            rwa [List.take_of_length_le (by omega)] at this
          go_wp2_with fail
          go_round
          case rel => exact ⟨k + 1, by omega, by go_num, Lib.hid (not_yetL HT.out hlt X.out)⟩
          case measure => simp [intOf]; omega
    · go_wp2_with fail
      go_ret
      refine ⟨ret_int (compAt_no ?_).symm, rfl⟩
      have := HT.out
      rwa [List.take_of_length_le (by omega)] at this
theorem sum_mem_le {zss : List (List Int)} {zs : List Int} (h : zs ∈ zss) : zs.length ≤ (zss.map List.length).sum := by
  induction zss with
  | nil => cases h
  | cons x r ih =>
    rw [List.map_cons, List.sum_cons]
    rcases List.mem_cons.1 h with rfl | h
    · omega
    · have := ih h; omega
set_option maxHeartbeats 400000 in
theorem law_CompAt (v : Value) (zss : List (List Int)) (n : Int) (w : World) (o : IsIntss w v zss) (_hn : (Lit.int .i64 n).wf = true) :
    Calls Try.prog 12 #[v, .int .i64 n] w fun e w' => e = .returned (.bool true) ∧ Below w.heap.size w w' := by
  have HI := Lib.hid o
  clear o
  by_cases h2 : (1048576 : Int) - (totSS zss : Int) < 0
  · have C := Lib.hid (cut0_neg h2)
    go_enter Try.func12, Try.ntmps12
    go_wp2_with fail
    refine (laws_szIntSS v zss 1048576 _ HI.out (by omega) (by omega)).mono ?_
    rintro e w' ⟨rfl, rfl⟩
    rw [C.out]
    go_wp2_with fail
    go_ret
    exact ⟨rfl, Below.refl _ _⟩
  · have C := Lib.hid (cut0_pos (n := (1048576 : Int) - (totSS zss : Int)) (by omega))
    have hl : zss.length ≤ 1048576 := by unfold totSS at h2; omega
    have hz := Lib.hid (fun zs (hm : zs ∈ zss) => show zs.length ≤ 1048576 from by have := sum_mem_le hm; unfold totSS at h2; omega)
    go_enter Try.func12, Try.ntmps12
    go_wp2_with fail
    refine (laws_szIntSS v zss 1048576 _ HI.out (by omega) (by omega)).mono ?_
    rintro e w' ⟨rfl, rfl⟩
    rw [C.out]
    go_wp2_with fail
    refine (laws_toIntSS v zss _ HI.out hl hz.out).mono ?_
    rintro e w1 ⟨v1, rfl, i1, b1⟩
    have I1 := Lib.hid i1
    clear i1
    go_wp2_with fail
    refine (spec_CompAt v1 zss n _ I1.out).mono ?_
    rintro e w' ⟨rfl, rfl⟩
    go_wp2_with fail
    refine (laws_toIntSS v zss _ (HI.out.below b1) hl hz.out).mono ?_
    rintro e w2 ⟨v2, rfl, i2, b2⟩
    have I2 := Lib.hid i2
    clear i2
    go_wp2_with fail
    refine (impl_CompAt v2 zss n _ I2.out).mono ?_
    rintro e w' ⟨rfl, rfl⟩
    have hb : (compAt zss n != compAt zss n) = false := by simp
    go_wp2_with fail
    refine (laws_toIntSS v zss _ ((HI.out.below b1).below b2) hl hz.out).mono ?_
    rintro e w4 ⟨v4, rfl, i4, b4⟩
    have I4 := Lib.hid i4
    clear i4
    go_wp2_with fail
    refine (laws_eqIntSS v2 v4 zss zss _ (I2.out.below b4) I4.out).mono ?_
    rintro e w5 ⟨rfl, b5⟩
    go_wp2_with fail
    go_ret
    exact ⟨rfl, below_then (below_then (below_then b1 b2) b4) b5⟩
end Go.Proofs.Ytbjnagnkekibdaa
