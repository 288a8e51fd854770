/- Lists of texts: what it is that a slice reads as such a list, and the contracts of the laws' helpers that measure, copy and compare them. -/
import Derived.Test.YtefcdpkficojgaaDoorMem
import Derived.Deep.QuietTactic
import Derived.BigQuiet
import Derived.SliceStrings
import Derived.WideShapes
namespace Go.Proofs.YtefcdpkficojgaaDoor
open Go.RowKit

/-- v is a slice that reads as the texts ss -/
def IsStrs (w : World) (v : Value) (ss : List ByteArray) : Prop := ∃ A c, v = .slice A ss.length c ∧ ss.length ≤ c ∧ c ≤ maxLen ∧ Rd w 1 A ss.length (ss.map Value.string)
theorem IsStrs.below {w w' : World} {v : Value} {ss : List ByteArray} (h : IsStrs w v ss) (hb : Below w.heap.size w w') : IsStrs w' v ss := by
  obtain ⟨A, c, e, h1, h2, h3⟩ := h
  exact ⟨A, c, e, h1, h2, h3.below hb⟩
/-- its cell k -/
theorem rd_str {w : World} {A : Option Addr} {ss : List ByteArray} (rd : Rd w 1 A ss.length (ss.map Value.string)) {k : Nat} (hk : k < ss.length) : ∃ b off, A = some ⟨b, off, none⟩ ∧ w.cell? ⟨b, off + k, none⟩ = some (.string ss[k]) := by
  obtain ⟨b, off, e, hc⟩ := rd.2 (by omega)
  exact ⟨b, off, e, hc k _ (by simp [hk])⟩

/-- what szStringS counts -/
def totS (ss : List ByteArray) : Nat := ss.length + (ss.map ByteArray.size).sum
def cut0 (n : Int) : Int := if n < 0 then -1 else n
theorem sum_take (l : List Nat) (k : Nat) (h : k < l.length) : (l.take (k + 1)).sum = (l.take k).sum + l[k] := by
  have e : l.take (k + 1) = l.take k ++ [l[k]] := List.take_succ_eq_append_getElem h
  rw [e, List.sum_append, List.sum_cons, List.sum_nil, Nat.add_zero]
theorem sum_take_le (l : List Nat) (k : Nat) : (l.take k).sum ≤ l.sum := by
  have e : l.sum = (l.take k).sum + (l.drop k).sum := by rw [← List.sum_append, List.take_append_drop]
  omega
theorem cut0_neg {n : Int} (h : n < 0) : cut0 n = -1 := by simp [cut0, h]
theorem cut0_pos {n : Int} (h : 0 ≤ n) : cut0 n = n := by simp [cut0]; omega
set_option maxRecDepth 100000 in
theorem open_strs {H : Type} {enc : TypeId × Value → H} {w : World} {r : Reach} {b0 base : Nat} {spare : Nat → Bool} {held : Bool} {v : Value} {d : DataW H} {p : List MemPlace} (hv : Value.okWide Tryd.prog w r b0 44 v) (h : DataW.Trod enc Tryd.prog w base spare held 44 v d p) :
    ∃ ss, IsStrs w v ss ∧ ∀ s ∈ ss, s.size ≤ maxLen := by
  obtain ⟨a0, len, cap, rfl⟩ := Go.WideShapes.okWide_slice Tryd.underlying44 hv
  obtain ⟨fuel, hf⟩ := h
  rcases Go.ChangeShapes.open_strings Tryd.underlying44 Tryd.underlying9 (by kernel_rfl) hf with ⟨hcs, _⟩ | ⟨x, l, c, ss, hcs, _, hl, hm, hz, _, hcell, hwz⟩
  · simp [Value.cells] at hcs
    obtain ⟨rfl, rfl, rfl⟩ := hcs
    exact ⟨[], ⟨none, 0, rfl, Nat.le_refl _, by simp [maxLen], Rd.nil⟩, by simp⟩
  · simp [Value.cells] at hcs
    obtain ⟨rfl, rfl, rfl⟩ := hcs
    have hle : len ≤ ss.length := by rw [hz]; split <;> omega
    refine ⟨ss.take len, ⟨some x, cap, by simp [hle], by simp; omega, hm, by simp, fun hn => ?_⟩, fun s hs => hwz s (List.mem_of_mem_take hs)⟩
    obtain ⟨b, off, spot⟩ := x
    have hn' : 0 < ss.length := by simp at hn; omega
    have h0 := hcell 0 hn'
    have hspot : spot = none := by simpa [Addr.add] using World.cell?_spot h0
    subst hspot
    refine ⟨b, off, rfl, fun j u hu => ?_⟩
    simp only [List.getElem?_map, List.getElem?_take] at hu
    split at hu
    · rename_i hj
      have hj' : j < ss.length := by omega
      rw [List.getElem?_eq_getElem hj'] at hu
      have := hcell j hj'
      rw [Addr.add_lit] at this
      rw [this]
      simp [List.getD, List.getElem?_eq_getElem hj'] at hu ⊢
      exact hu
    · simp at hu
theorem strT : ElemT Tryd.prog 44 9 1 16 := ElemT.mk' (z := .string ByteArray.empty) Tryd.underlying44 (by kernel_rfl) rfl (by decide)
theorem strZ : (Tryd.prog.info? 9).map (fun i => i.zero) = some (some (.string ByteArray.empty)) := by kernel_rfl
set_option maxHeartbeats 400000 in
theorem laws_szStringS (v : Value) (ss : List ByteArray) (left : Int) (w : World) (h : IsStrs w v ss) (hs : ∀ s ∈ ss, s.size ≤ maxLen) (h0 : 0 ≤ left) (h1 : left ≤ 1048576) :
    Calls Tryd.prog 85 #[v, .int .i64 left] w fun e w' => e = .returned (.int .i64 (cut0 (left - (totS ss : Int)))) ∧ w = w' := by
  obtain ⟨A, c, rfl, h2, h3, rd⟩ := h
  unfold maxLen at h3
  have RD := Lib.hid rd
  clear rd
  by_cases g0 : left - (ss.length : Int) < 0
  · have F := Lib.hid (cut0_neg (n := left - (totS ss : Int)) (by unfold totS; omega))
    go_enter Tryd.func85, Tryd.ntmps85
    go_wp2_with fail
    go_ret
    exact ⟨ret_int F.out.symm, rfl⟩
  · go_enter Tryd.func85, Tryd.ntmps85
    go_wp2_with fail
    go_loop [1, 5] (fun l i => ∃ (k : Nat) (m : Int), k ≤ ss.length ∧ i = .int .i64 k ∧ l = .int .i64 m ∧ 0 ≤ m ∧ m ≤ left ∧ Hid (m = left - (ss.length : Int) - (((ss.map ByteArray.size).take k).sum : Int))) (fun _ i => ss.length - (intOf i).toNat)
    case atStart => exact ⟨0, _, Nat.zero_le _, rfl, rfl, by omega, by omega, Lib.hid (by simp)⟩
    case round =>
      obtain ⟨k, m, hk, rfl, rfl, hm0, hm1, HM⟩ := hrel
      by_cases hlt : k < ss.length
      · obtain ⟨b, off, rfl, hcell⟩ := rd_str RD.out hlt
        have hsz := hs ss[k] (List.getElem_mem hlt)
        unfold maxLen at hsz
        have HS := Lib.hid (sum_take (ss.map ByteArray.size) k (by simpa using hlt))
        have HL := Lib.hid (sum_take_le (ss.map ByteArray.size) (k + 1))
        have h0k : (0 : Int) ≤ (k : Int) := by omega
        clear hs
        by_cases g1 : m - (ss[k].size : Int) < 0
        · go_wp2_with fail
          go_ret
          refine ⟨ret_int ?_, rfl⟩
          have e1 := HS.out
          have e2 := HL.out
          have e3 := HM.out
          simp only [List.getElem_map] at e1
          exact (cut0_neg (by unfold totS; omega)).symm
        · go_wp2_with fail
          go_round
          case rel =>
            refine ⟨k + 1, m - (ss[k].size : Int), by omega, by go_num, rfl, by omega, by omega, Lib.hid ?_⟩
            have e1 := HS.out
            have e3 := HM.out
            simp only [List.getElem_map] at e1
            omega
          case measure => simp [intOf]; omega
      · go_wp2_with fail
        go_ret
        refine ⟨ret_int ?_, rfl⟩
        have e3 := HM.out
        rw [List.take_of_length_le (by simp; omega)] at e3
        rw [cut0_pos (by unfold totS; omega)]
        unfold totS
        omega
set_option maxHeartbeats 400000 in
theorem laws_toStringS (v : Value) (ss : List ByteArray) (w : World) (h : IsStrs w v ss) (h1 : ss.length ≤ 1048576) :
    Calls Tryd.prog 91 #[v] w fun e w' => ∃ v', e = .returned v' ∧ IsStrs w' v' ss ∧ Below w.heap.size w w' := by
  obtain ⟨A, c, rfl, h2, h3, rd⟩ := h
  unfold maxLen at h3
  have RD := Lib.hid rd
  clear rd
  go_enter Tryd.func91, Tryd.ntmps91
  go_wp2_with (at_make; refine wpList_mk1 rfl _ _ 44 rfl strT _ strZ rfl (Below.refl _ _) _ _ _ _ ss.length rfl rfl rfl rfl (by omega) (by simp only [maxLen]; omega) ?_; intro g w1 own1)
  go_loopw [4] (fun i wr => ∃ k : Nat, k ≤ ss.length ∧ i = .int .i64 k ∧ Own w wr 9 1 (.slice (some ⟨g, 0, none⟩) ss.length ss.length) ss.length (part (ss.map Value.string) (.string ByteArray.empty) k)) (fun i _ => ss.length - (intOf i).toNat)
  case atStart => exact ⟨0, Nat.zero_le _, rfl, by rw [part_zero]; simpa using own1⟩
  case round =>
    obtain ⟨k, hk, rfl, own⟩ := hrel
    have OW := Lib.hid own
    clear own own1
    by_cases hlt : k < ss.length
    · have hlt' : k < (ss.map Value.string).length := by simpa using hlt
      obtain ⟨b, off, rfl, hcell⟩ := rd_str (RD.out.below' OW.out.2) hlt
      have hold := OW.out.cellAt (j := k) (by omega) (part_get _ _ hlt')
      have hfree := OW.out.freeAt k
      have OS := Lib.hid (OW.out.set k (.string ss[k]))
      have e := part_set (ss.map Value.string) (.string ByteArray.empty) hlt'
      simp only [List.getElem_map] at e
      have HE := Lib.hid e
      have h0k : (0 : Int) ≤ (k : Int) := by omega
      clear e
      go_wp2_with fail
      go_roundw
      case rel => exact ⟨k + 1, by omega, by go_num, by rw [← HE.out]; exact OS.out⟩
      case measure => simp [intOf]; omega
    · have OE := OW.out
      rw [part_all _ _ (by simp; omega)] at OE
      have OB := Lib.hid OE
      clear OE OW
      go_wp2_with fail
      go_ret
      exact ⟨_, rfl, ⟨_, _, rfl, Nat.le_refl _, by simp only [maxLen]; omega, OB.out.rd⟩, OB.out.2⟩
set_option maxHeartbeats 400000 in
theorem laws_eqStringS (v u : Value) (ss tt : List ByteArray) (w : World) (h : IsStrs w v ss) (h' : IsStrs w u tt) :
    Calls Tryd.prog 97 #[v, u] w fun e w' => e = .returned (.bool (decide (ss = tt))) ∧ Qt w w' := by
  obtain ⟨A, c, rfl, h2, h3, rd⟩ := h
  obtain ⟨A', c', rfl, h2', h3', rd'⟩ := h'
  unfold maxLen at h3 h3'
  have RD := Lib.hid rd
  have RD' := Lib.hid rd'
  clear rd rd'
  by_cases g0 : ss.length = tt.length
  · have g1 : ((ss.length : Int) != (tt.length : Int)) = false := by simp [g0]
    have G := Lib.hid g0
    clear g0
    go_enter Tryd.func97, Tryd.ntmps97
    go_wp2_with fail
    go_loopw [5] (fun i wr => ∃ (k m : Nat), k ≤ ss.length ∧ i = .int .i64 k ∧ wr = w.drewN m ∧ Hid (ss.take k = tt.take k)) (fun i _ => ss.length - (intOf i).toNat)
    case atStart => exact ⟨0, 0, Nat.zero_le _, rfl, rfl, Lib.hid rfl⟩
    case round =>
      obtain ⟨k, m, hk, rfl, rfl, HT⟩ := hrel
      by_cases hlt : k < ss.length
      · have hlt' : k < tt.length := by rw [← G.out]; exact hlt
        obtain ⟨b, off, rfl, hcell⟩ := rd_str RD.out hlt
        obtain ⟨b', off', rfl, hcell'⟩ := rd_str RD'.out hlt'
        have h0k : (0 : Int) ≤ (k : Int) := by omega
        have h1k : (k : Int) < (ss.length : Int) := by omega
        have h2k : (k : Int) < (tt.length : Int) := by omega
        have q := str_eq ss[k] tt[k]
        by_cases e : ss[k] = tt[k]
        · have HE := Lib.hid e
          rw [decide_eq_true e] at q
          clear e
          go_wp2_with fail
          go_quiet (fail)
          go_wp2_with fail
          go_roundw
          case rel => exact ⟨k + 1, _, by omega, by go_num, rfl, Lib.hid (take_eq_succ HT.out hlt hlt' HE.out)⟩
          case measure => simp [intOf]; omega
        · have HE := Lib.hid e
          rw [decide_no e] at q
          clear e
          go_wp2_with fail
          go_quiet (fail)
          go_wp2_with fail
          go_ret
          exact ⟨ret_bool (decide_no (fun e => HE.out (by subst e; rfl))).symm, (Qt.of_drewN _ _).trans (Qt.of_drewN _ _)⟩
      · go_wp2_with fail
        go_ret
        have e : ss = tt := by
          have := HT.out
          rwa [List.take_of_length_le (by omega), List.take_of_length_le (by rw [← G.out]; omega)] at this
        exact ⟨ret_bool (decide_eq_true e).symm, ⟨_, rfl⟩⟩
  · have g1 : ((ss.length : Int) != (tt.length : Int)) = true := by simp; omega
    have G := Lib.hid g0
    clear g0
    go_enter Tryd.func97, Tryd.ntmps97
    go_wp2_with fail
    go_ret
    exact ⟨ret_bool (decide_no (fun e => G.out (by rw [e]))).symm, Qt.refl _⟩
/-- the place of the first one that is the name; -1 without one -/
def placeS (ss : List ByteArray) (x : ByteArray) : Int := match ss.findIdx? (fun s => decide (s = x)) with | some k => (k : Int) | none => -1
theorem placeS_at {ss : List ByteArray} {x : ByteArray} {k : Nat} (h : ∀ s ∈ ss.take k, s ≠ x) (hk : k < ss.length) (e : ss[k] = x) : placeS ss x = (k : Int) := by
  have : ss.findIdx? (fun s => decide (s = x)) = some k := by
    rw [List.findIdx?_eq_some_iff_getElem]
    refine ⟨hk, by simpa using e, fun j hj => ?_⟩
    have := h ss[j] (List.mem_take_iff_getElem.2 ⟨j, by omega, rfl⟩)
    simpa using this
  unfold placeS; rw [this]
theorem placeS_no {ss : List ByteArray} {x : ByteArray} (h : ∀ s ∈ ss, s ≠ x) : placeS ss x = -1 := by
  have : ss.findIdx? (fun s => decide (s = x)) = none := by
    rw [List.findIdx?_eq_none_iff]
    intro s hs
    simpa using h s hs
  unfold placeS; rw [this]
theorem take_all_succ {ss : List ByteArray} {x : ByteArray} {k : Nat} (h : ∀ s ∈ ss.take k, s ≠ x) (hk : k < ss.length) (e : ss[k] ≠ x) : ∀ s ∈ ss.take (k + 1), s ≠ x := by
  have e1 : ss.take (k + 1) = ss.take k ++ [ss[k]] := List.take_succ_eq_append_getElem hk
  rw [e1]
  intro s hs
  rcases List.mem_append.1 hs with h1 | h1
  · exact h s h1
  · rw [List.mem_singleton.1 h1]; exact e
set_option maxHeartbeats 400000 in
theorem spec_PlaceOf (v : Value) (ss : List ByteArray) (x : ByteArray) (w : World) (h : IsStrs w v ss) :
    Calls Tryd.prog 202 #[v, .string x] w fun e w' => e = .returned (.int .i64 (placeS ss x)) ∧ w = w' := by
  obtain ⟨A, c, rfl, h2, h3, rd⟩ := h
  unfold maxLen at h3
  have RD := Lib.hid rd
  clear rd
  go_enter Tryd.func202, Tryd.ntmps202
  go_wp2_with fail
  go_loop [5] (fun i => ∃ k : Nat, k ≤ ss.length ∧ i = .int .i64 k ∧ Hid (∀ s ∈ ss.take k, s ≠ x)) (fun i => ss.length - (intOf i).toNat)
  case atStart => exact ⟨0, Nat.zero_le _, rfl, Lib.hid (by simp)⟩
  case round =>
    obtain ⟨k, hk, rfl, HT⟩ := hrel
    by_cases hlt : k < ss.length
    · obtain ⟨b, off, rfl, hcell⟩ := rd_str RD.out hlt
      have h0k : (0 : Int) ≤ (k : Int) := by omega
      have q := str_eq ss[k] x
      by_cases e : ss[k] = x
      · have HE := Lib.hid e
        rw [decide_eq_true e] at q
        clear e
        go_wp2_with fail
        go_ret
        exact ⟨ret_int (placeS_at HT.out hlt HE.out).symm, rfl⟩
      · have HE := Lib.hid e
        rw [decide_no e] at q
        clear e
        go_wp2_with fail
        go_round
        case rel => exact ⟨k + 1, by omega, by go_num, Lib.hid (take_all_succ HT.out hlt HE.out)⟩
        case measure => simp [intOf]; omega
    · go_wp2_with fail
      go_ret
      refine ⟨ret_int (placeS_no ?_).symm, rfl⟩
      have := HT.out
      rwa [List.take_of_length_le (by omega)] at this
set_option maxHeartbeats 400000 in
theorem slices_Index (v : Value) (ss : List ByteArray) (x : ByteArray) (w : World) (h : IsStrs w v ss) :
    Calls Tryd.prog 198 #[v, .string x] w fun e w' => e = .returned (.int .i64 (placeS ss x)) ∧ w = w' := by
  obtain ⟨A, c, rfl, h2, h3, rd⟩ := h
  unfold maxLen at h3
  have RD := Lib.hid rd
  clear rd
  go_enter Tryd.func198, Tryd.ntmps198
  go_wp2_with fail
  go_loop [8] (fun i => ∃ k : Nat, k ≤ ss.length ∧ i = .int .i64 k ∧ Hid (∀ s ∈ ss.take k, s ≠ x)) (fun i => ss.length - (intOf i).toNat)
  case atStart => exact ⟨0, Nat.zero_le _, rfl, Lib.hid (by simp)⟩
  case round =>
    obtain ⟨k, hk, rfl, HT⟩ := hrel
    by_cases hlt : k < ss.length
    · obtain ⟨b, off, rfl, hcell⟩ := rd_str RD.out hlt
      have h0k : (0 : Int) ≤ (k : Int) := by omega
      have q := str_eq x ss[k]
      by_cases e : x = ss[k]
      · have HE := Lib.hid e
        rw [decide_eq_true e] at q
        clear e
        go_wp2_with fail
        go_ret
        exact ⟨ret_int (placeS_at HT.out hlt HE.out.symm).symm, rfl⟩
      · have HE := Lib.hid e
        rw [decide_no e] at q
        clear e
        go_wp2_with fail
        go_round
        case rel => exact ⟨k + 1, by omega, by go_num, Lib.hid (take_all_succ HT.out hlt (fun h => HE.out h.symm))⟩
        case measure => simp [intOf]; omega
    · go_wp2_with fail
      go_ret
      refine ⟨ret_int (placeS_no ?_).symm, rfl⟩
      have := HT.out
      rwa [List.take_of_length_le (by omega)] at this
end Go.Proofs.YtefcdpkficojgaaDoor
