/- Lists of numbers, and lists of such lists: the contracts of the laws' helpers that measure, copy and compare them, of CompAt in the program and in the reference, and the law over them. -/
import Derived.Test.YtefcdpkficojgaaDoorArcs
import Derived.Test.YtefcdpkficojgaaDoorStrs
namespace Go.Proofs.YtefcdpkficojgaaDoor
open Go.RowKit
set_option linter.unusedVariables false

def IsInts (w : World) (v : Value) (zs : List Int) : Prop := ∃ A c, v = .slice A zs.length c ∧ zs.length ≤ c ∧ c ≤ maxLen ∧ Rd w 1 A zs.length (zs.map (Value.int .i64))
theorem IsInts.below {w w' : World} {v : Value} {zs : List Int} (h : IsInts w v zs) (hb : Below w.heap.size w w') : IsInts w' v zs := by
  obtain ⟨A, c, e, h1, h2, h3⟩ := h
  exact ⟨A, c, e, h1, h2, h3.below hb⟩
theorem rd_int {w : World} {A : Option Addr} {zs : List Int} (rd : Rd w 1 A zs.length (zs.map (Value.int .i64))) {k : Nat} (hk : k < zs.length) : ∃ b off, A = some ⟨b, off, none⟩ ∧ w.cell? ⟨b, off + k, none⟩ = some (.int .i64 zs[k]) := by
  obtain ⟨b, off, e, hc⟩ := rd.2 (by omega)
  exact ⟨b, off, e, hc k _ (by simp [hk])⟩
theorem flat_ints (zs : List Int) : zs.flatMap (fun z => [Value.int .i64 z]) = zs.map (Value.int .i64) := by
  induction zs with
  | nil => rfl
  | cons z r ih => rw [List.flatMap_cons, ih]; rfl
theorem ints_of_rows {w : World} {v : Value} {zs : List Int} (h : IsRows 1 (fun z => [Value.int .i64 z]) w v zs) : IsInts w v zs := by
  obtain ⟨A, c, e, h1, h2, rd⟩ := h
  refine ⟨A, c, e, h1, h2, ?_⟩
  rw [← flat_ints]; exact rd
/-- the same, its row made since block lo -/
def IsIntsF (lo : Nat) (w : World) (v : Value) (zs : List Int) : Prop := ∃ A c, v = .slice A zs.length c ∧ zs.length ≤ c ∧ c ≤ maxLen ∧ Rd w 1 A zs.length (zs.map (Value.int .i64)) ∧ ∀ b off, A = some ⟨b, off, none⟩ → 0 < zs.length → lo ≤ b
theorem IsIntsF.is {lo : Nat} {w : World} {v : Value} {zs : List Int} (h : IsIntsF lo w v zs) : IsInts w v zs := by
  obtain ⟨A, c, e, h1, h2, h3, _⟩ := h
  exact ⟨A, c, e, h1, h2, h3⟩
theorem IsIntsF.below {lo : Nat} {w w' : World} {v : Value} {zs : List Int} (h : IsIntsF lo w v zs) (hb : Below w.heap.size w w') : IsIntsF lo w' v zs := by
  obtain ⟨A, c, e, h1, h2, h3, h4⟩ := h
  exact ⟨A, c, e, h1, h2, h3.below hb, h4⟩
theorem Rd.set_other {w : World} {sz n : Nat} {A : Option Addr} {xs : List Value} (h : Rd w sz A n xs) {p : Addr} (hp : ∀ b off, A = some ⟨b, off, none⟩ → 0 < n → b ≠ p.block) (u : Value) : Rd (w.setCell p u) sz A n xs :=
  ⟨h.1, fun hn => by
    obtain ⟨b, off, e, hc⟩ := h.2 hn
    exact ⟨b, off, e, fun j v hv => by rw [World.cell?_setCell_other w p _ u (fun e2 => by subst e2; exact hp b off e hn rfl)]; exact hc j v hv⟩⟩
theorem IsIntsF.set_other {lo : Nat} {w : World} {v : Value} {zs : List Int} (h : IsIntsF lo w v zs) {p : Addr} (hp : p.block < lo) (u : Value) : IsIntsF lo (w.setCell p u) v zs := by
  obtain ⟨A, c, e, h1, h2, h3, h4⟩ := h
  exact ⟨A, c, e, h1, h2, h3.set_other (fun b off hb hn => by have := h4 b off hb hn; omega) u, h4⟩
theorem IsIntsF.of_own {w0 w : World} {e : TypeId} {v : Value} {zs : List Int} {lo : Nat} (h : Own w0 w e 1 v zs.length (zs.map (Value.int .i64))) (hlo : lo ≤ w0.heap.size) : IsIntsF lo w v zs := by
  obtain ⟨A, c, rfl, hc⟩ := h.slice
  refine ⟨A, c, rfl, hc, own_cap' h, h.rd, fun b off hb hn => ?_⟩
  subst hb
  have := (h.1.lt b rfl).1
  omega
def IsIntss (w : World) (v : Value) (zss : List (List Int)) : Prop := IsRowsR 1 (fun cs zs => ∃ u, cs = [u] ∧ IsInts w u zs) w v zss
theorem IsIntss.below {w w' : World} {v : Value} {zss : List (List Int)} (h : IsIntss w v zss) (hb : Below w.heap.size w w') : IsIntss w' v zss := by
  obtain ⟨A, c, cs, e, h1, h2, rd, hx⟩ := h
  refine ⟨A, c, cs, e, h1, h2, rd.below hb, fun k hk => ?_⟩
  obtain ⟨u, e1, hu⟩ := hx k hk
  exact ⟨u, e1, hu.below hb⟩
/-- element k: its cell holds a slice that reads as it -/
theorem rd_ints {w : World} {A : Option Addr} {zss : List (List Int)} {cs : List Value} (rd : Rd w 1 A zss.length cs) (hx : ∀ k (h : k < zss.length), ∃ u, (cs.drop (k * 1)).take 1 = [u] ∧ IsInts w u zss[k]) {k : Nat} (hk : k < zss.length) :
    ∃ b off A' c', A = some ⟨b, off, none⟩ ∧ w.cell? ⟨b, off + k, none⟩ = some (.slice A' zss[k].length c') ∧ zss[k].length ≤ c' ∧ c' ≤ maxLen ∧ IsInts w (.slice A' zss[k].length c') zss[k] := by
  obtain ⟨b, off, e, hc⟩ := rd.2 (by omega)
  obtain ⟨u, e1, hu⟩ := hx k hk
  have hu' := hu
  obtain ⟨A', c', rfl, h1, h2, _⟩ := hu
  have := chunk_get (sz := 1) (k := k) (r := 0) (by omega) e1
  exact ⟨b, off, A', c', e, hc k _ (by rw [Nat.mul_one, Nat.add_zero] at this; rw [this]; rfl), h1, h2, hu'⟩
theorem intT : ElemT Tryd.prog 51 3 1 8 := ElemT.mk' (z := .int .i64 0) Tryd.underlying51 (by kernel_rfl) rfl (by decide)
theorem intZ : (Tryd.prog.info? 3).map (fun i => i.zero) = some (some (.int .i64 0)) := by kernel_rfl
theorem intsZ : (Tryd.prog.info? 51).map (fun i => i.zero) = some (some (.slice none 0 0)) := by kernel_rfl
set_option maxRecDepth 100000 in
theorem open_ints_at {H : Type} {enc : TypeId × Value → H} {w : World} {base : Nat} {spare : Nat → Bool} {held : Bool} {fuel : Nat} {cs : List Value} {y : DataW H × List MemPlace} (hf : DataW.trod enc Tryd.prog w base spare held fuel 51 cs = some y) :
    ∃ u zs, cs = [u] ∧ IsInts w u zs ∧ ∀ z ∈ zs, i64ok z := by
  obtain ⟨u, zs, hu, hr⟩ := open_cells (R := fun cs (z : Int) => cs = [Value.int .i64 z] ∧ i64ok z) (by decide) Tryd.underlying51 (by kernel_rfl : Tryd.prog.cellsOf 3 = 1) hf (fun n cs y _ hy => by
    obtain ⟨z, e, _, wf⟩ := DataW.trod_int Tryd.underlying3 hy
    exact ⟨z, e, i64ok_of wf⟩)
  exact ⟨u, zs, hu, ints_of_rows hr.rows.1, hr.rows.2⟩
set_option maxRecDepth 100000 in
theorem open_ints_arg {H : Type} {enc : TypeId × Value → H} {w : World} {r : Reach} {b0 base : Nat} {spare : Nat → Bool} {held : Bool} {v : Value} {d : DataW H} {p : List MemPlace} (hv : Value.okWide Tryd.prog w r b0 51 v) (h : DataW.Trod enc Tryd.prog w base spare held 51 v d p) :
    ∃ zs, IsInts w v zs ∧ ∀ z ∈ zs, i64ok z := by
  obtain ⟨a0, len, cap, rfl⟩ := Go.WideShapes.okWide_slice Tryd.underlying51 hv
  obtain ⟨fuel, hf⟩ := h
  obtain ⟨u, zs, hu, h1, h2⟩ := open_ints_at hf
  simp only [Value.cells, List.cons.injEq, and_true] at hu
  subst hu
  exact ⟨zs, h1, h2⟩
set_option maxHeartbeats 400000 in
theorem laws_toIntS (v : Value) (zs : List Int) (w : World) (h : IsInts w v zs) (h1 : zs.length ≤ 1048576) :
    Calls Tryd.prog 92 #[v] w fun e w' => ∃ v', e = .returned v' ∧ Own w w' 3 1 v' zs.length (zs.map (Value.int .i64)) := by
  obtain ⟨A, c, rfl, h2, h3, rd⟩ := h
  unfold maxLen at h3
  have RD := Lib.hid rd
  clear rd
  go_enter Tryd.func92, Tryd.ntmps92
  go_wp2_with (at_make; refine wpList_mk1 rfl _ _ 51 rfl intT _ intZ rfl (Below.refl _ _) _ _ _ _ zs.length rfl rfl rfl rfl (by omega) (by simp only [maxLen]; omega) ?_; intro g w1 own1)
  go_loopw [4] (fun i wr => ∃ k : Nat, k ≤ zs.length ∧ i = .int .i64 k ∧ Own w wr 3 1 (.slice (some ⟨g, 0, none⟩) zs.length zs.length) zs.length (part (zs.map (Value.int .i64)) (.int .i64 0) k)) (fun i _ => zs.length - (intOf i).toNat)
  case atStart => exact ⟨0, Nat.zero_le _, rfl, by rw [part_zero]; simpa using own1⟩
  case round =>
    obtain ⟨k, hk, rfl, own⟩ := hrel
    have OW := Lib.hid own
    clear own own1
    by_cases hlt : k < zs.length
    · have hlt' : k < (zs.map (Value.int .i64)).length := by simpa using hlt
      obtain ⟨b, off, rfl, hcell⟩ := rd_int (RD.out.below OW.out.2) hlt
      have hold := OW.out.cellAt (j := k) (by omega) (part_get _ _ hlt')
      have hfree := OW.out.freeAt k
      have OS := Lib.hid (OW.out.set k (.int .i64 zs[k]))
      have e := part_set (zs.map (Value.int .i64)) (.int .i64 0) hlt'
      simp only [List.getElem_map] at e
      have HE := Lib.hid e
      have h0k : (0 : Int) ≤ (k : Int) := by omega
      clear e
      go_wp2_with fail
      go_roundw
      case rel => exact ⟨k + 1, by omega, by go_num, by rw [← HE.out]; exact OS.out⟩
      case measure => simp [intOf]; omega
    · have OE := OW.out
      rw [part_all _ _ (by simp; omega)] at OE
      have OB := Lib.hid OE
      clear OE OW
      go_wp2_with fail
      go_ret
      exact ⟨_, rfl, OB.out⟩
set_option maxHeartbeats 400000 in
theorem laws_eqIntS (v u : Value) (ss tt : List Int) (w : World) (h : IsInts w v ss) (h' : IsInts w u tt) :
    Calls Tryd.prog 98 #[v, u] w fun e w' => e = .returned (.bool (decide (ss = tt))) ∧ Qt w w' := by
  obtain ⟨A, c, rfl, h2, h3, rd⟩ := h
  obtain ⟨A', c', rfl, h2', h3', rd'⟩ := h'
  unfold maxLen at h3 h3'
  have RD := Lib.hid rd
  have RD' := Lib.hid rd'
  clear rd rd'
  by_cases g0 : ss.length = tt.length
  · have g1 : ((ss.length : Int) != (tt.length : Int)) = false := by simp [g0]
    have G := Lib.hid g0
    clear g0
    go_enter Tryd.func98, Tryd.ntmps98
    go_wp2_with fail
    go_loopw [5] (fun i wr => ∃ (k m : Nat), k ≤ ss.length ∧ i = .int .i64 k ∧ wr = w.drewN m ∧ Hid (ss.take k = tt.take k)) (fun i _ => ss.length - (intOf i).toNat)
    case atStart => exact ⟨0, 0, Nat.zero_le _, rfl, rfl, Lib.hid rfl⟩
    case round =>
      obtain ⟨k, m, hk, rfl, rfl, HT⟩ := hrel
      by_cases hlt : k < ss.length
      · have hlt' : k < tt.length := by rw [← G.out]; exact hlt
        obtain ⟨b, off, rfl, hcell⟩ := rd_int RD.out hlt
        obtain ⟨b', off', rfl, hcell'⟩ := rd_int RD'.out hlt'
        have h0k : (0 : Int) ≤ (k : Int) := by omega
        have h1k : (k : Int) < (ss.length : Int) := by omega
        have h2k : (k : Int) < (tt.length : Int) := by omega
        by_cases e : ss[k] = tt[k]
        · have HE := Lib.hid e
          have q : (ss[k] != tt[k]) = false := by simp [e]
          clear e
          go_wp2_with fail
          go_quiet (fail)
          go_wp2_with fail
          go_roundw
          case rel => exact ⟨k + 1, _, by omega, by go_num, rfl, Lib.hid (take_eq_succ HT.out hlt hlt' HE.out)⟩
          case measure => simp [intOf]; omega
        · have HE := Lib.hid e
          have q : (ss[k] != tt[k]) = true := by simpa using e
          clear e
          go_wp2_with fail
          go_quiet (fail)
          go_wp2_with fail
          go_ret
          exact ⟨ret_bool (decide_no (fun e => HE.out (by subst e; rfl))).symm, (Qt.of_drewN _ _).trans (Qt.of_drewN _ _)⟩
      · go_wp2_with fail
        go_ret
        have e : ss = tt := by
          have := HT.out
          rwa [List.take_of_length_le (by omega), List.take_of_length_le (by rw [← G.out]; omega)] at this
        exact ⟨ret_bool (decide_eq_true e).symm, ⟨_, rfl⟩⟩
  · have g1 : ((ss.length : Int) != (tt.length : Int)) = true := by simp; omega
    have G := Lib.hid g0
    clear g0
    go_enter Tryd.func98, Tryd.ntmps98
    go_wp2_with fail
    go_ret
    exact ⟨ret_bool (decide_no (fun e => G.out (by rw [e]))).symm, Qt.refl _⟩
theorem laws_szIntS (v : Value) (zs : List Int) (left : Int) (w : World) (h : IsInts w v zs) (h0 : 0 ≤ left) (h1 : left ≤ 1048576) :
    Calls Tryd.prog 86 #[v, .int .i64 left] w fun e w' => e = .returned (.int .i64 (cut0 (left - (zs.length : Int)))) ∧ w = w' := by
  obtain ⟨A, c, rfl, h2, h3, rd⟩ := h
  unfold maxLen at h3
  clear rd
  by_cases g : left - (zs.length : Int) < 0
  · rw [cut0_neg g]
    go_enter Tryd.func86, Tryd.ntmps86
    go_wp2_with fail
    go_ret
    exact ⟨rfl, rfl⟩
  · rw [cut0_pos (by omega)]
    go_enter Tryd.func86, Tryd.ntmps86
    go_wp2_with fail
    go_ret
    exact ⟨rfl, rfl⟩
def totSS (zss : List (List Int)) : Nat := zss.length + (zss.map List.length).sum
theorem part_left {us : List Value} {n : Nat} {z : Value} (h : us.length < n) : (us ++ List.replicate (n - us.length) z)[us.length]? = some z := by
  rw [List.getElem?_append_right (Nat.le_refl _), Nat.sub_self, List.getElem?_replicate, if_pos (by omega)]
theorem part_left_set {us : List Value} {n : Nat} {z u : Value} (h : us.length < n) : (us ++ List.replicate (n - us.length) z).set us.length u = (us ++ [u]) ++ List.replicate (n - (us ++ [u]).length) z := by
  have e : n - us.length = (n - (us ++ [u]).length) + 1 := by simp; omega
  rw [List.set_append_right _ _ (Nat.le_refl _), Nat.sub_self, e, List.replicate_succ, List.set_cons_zero]
  simp
def hasB (zs : List Int) (n : Int) : Bool := zs.any (fun z => z == n)
theorem has_at {zs : List Int} {n : Int} {k : Nat} (hk : k < zs.length) (h : (zs[k] == n) = true) : hasB zs n = true := by
  unfold hasB; rw [List.any_eq_true]; exact ⟨zs[k], List.getElem_mem hk, h⟩
theorem has_no {zs : List Int} {n : Int} (h : ∀ z ∈ zs, (z == n) = false) : hasB zs n = false := by
  unfold hasB; rw [List.any_eq_false]; exact fun z hz => by simp [h z hz]
theorem not_yet {zs : List Int} {n : Int} {k : Nat} (h : ∀ z ∈ zs.take k, (z == n) = false) (hk : k < zs.length) (e : (zs[k] == n) = false) : ∀ z ∈ zs.take (k + 1), (z == n) = false := by
  have e1 : zs.take (k + 1) = zs.take k ++ [zs[k]] := List.take_succ_eq_append_getElem hk
  rw [e1]
  intro z hz
  rcases List.mem_append.1 hz with h1 | h1
  · exact h z h1
  · rw [List.mem_singleton.1 h1]; exact e
/-- the first part that has the node; -1 without one -/
def compAt (zss : List (List Int)) (n : Int) : Int := match zss.findIdx? (fun zs => hasB zs n) with | some k => (k : Int) | none => -1
theorem compAt_at {zss : List (List Int)} {n : Int} {k : Nat} (h : ∀ zs ∈ zss.take k, hasB zs n = false) (hk : k < zss.length) (e : hasB zss[k] n = true) : compAt zss n = (k : Int) := by
  have : zss.findIdx? (fun zs => hasB zs n) = some k := by
    rw [List.findIdx?_eq_some_iff_getElem]
    refine ⟨hk, e, fun j hj => ?_⟩
    have := h zss[j] (List.mem_take_iff_getElem.2 ⟨j, by omega, rfl⟩)
    simp [this]
  unfold compAt; rw [this]
theorem compAt_no {zss : List (List Int)} {n : Int} (h : ∀ zs ∈ zss, hasB zs n = false) : compAt zss n = -1 := by
  have : zss.findIdx? (fun zs => hasB zs n) = none := by
    rw [List.findIdx?_eq_none_iff]; exact h
  unfold compAt; rw [this]
theorem not_yetL {zss : List (List Int)} {n : Int} {k : Nat} (h : ∀ zs ∈ zss.take k, hasB zs n = false) (hk : k < zss.length) (e : hasB zss[k] n = false) : ∀ zs ∈ zss.take (k + 1), hasB zs n = false := by
  have e1 : zss.take (k + 1) = zss.take k ++ [zss[k]] := List.take_succ_eq_append_getElem hk
  rw [e1]
  intro z hz
  rcases List.mem_append.1 hz with h1 | h1
  · exact h z h1
  · rw [List.mem_singleton.1 h1]; exact e
theorem sum_mem_le {zss : List (List Int)} {zs : List Int} (h : zs ∈ zss) : zs.length ≤ (zss.map List.length).sum := by
  induction zss with
  | nil => cases h
  | cons x r ih =>
    rw [List.map_cons, List.sum_cons]
    rcases List.mem_cons.1 h with rfl | h
    · omega
    · have := ih h; omega
end Go.Proofs.YtefcdpkficojgaaDoor
