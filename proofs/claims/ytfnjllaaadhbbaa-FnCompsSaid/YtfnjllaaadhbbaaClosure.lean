/- The program's closure of a graph in rows of bits. -/
import Derived.Test.YtfnjllaaadhbbaaGraph
import Derived.Deep.RegionHeld3
import Derived.BigRegion
namespace Go.Proofs.Ytfnjllaaadhbbaa
open Go.RowKit
set_option linter.unusedVariables false

theorem u64map_set (l : List Nat) (i m : Nat) : (l.map u64V).set i (u64V m) = (l.set i m).map u64V := by rw [List.map_set]
/-- the program's rows of bits -/
structure RowsO (w0 w : World) (n : Nat) (g : Nat) (rows : List Nat) : Prop where
  len : rows.length = n
  own : Own w0 w 51 1 (.slice (some ⟨g, 0, none⟩) n n) n (rows.map u64V)
theorem RowsO.cell {w0 w : World} {n g : Nat} {rows : List Nat} (h : RowsO w0 w n g rows) {i : Nat} (hi : i < rows.length) : w.cell? ⟨g, i, none⟩ = some (.int .u64 ((rows[i] : Nat) : Int)) := by
  have hl := h.len
  refine h.own.cellAt (by omega) ?_
  rw [List.getElem?_map, List.getElem?_eq_getElem (by omega)]; rfl
theorem RowsO.free {w0 w : World} {n g : Nat} {rows : List Nat} (h : RowsO w0 w n g rows) (i : Nat) : w.frozen? ⟨g, i, none⟩ = false := h.own.freeAt i
theorem RowsO.set {w0 w : World} {n g : Nat} {rows : List Nat} (h : RowsO w0 w n g rows) (i m : Nat) : RowsO w0 (w.setCell ⟨g, i, none⟩ (.int .u64 (m : Int))) n g (rows.set i m) :=
  ⟨by rw [List.length_set]; exact h.len, by have := h.own.set i (u64V m); rwa [u64map_set] at this⟩
theorem RowsO.drew {w0 w : World} {n g : Nat} {rows : List Nat} (h : RowsO w0 w n g rows) : RowsO w0 w.drew n g rows := ⟨h.len, h.own.drew⟩
theorem RowsO.alloc {w0 w : World} {n g : Nat} {rows : List Nat} (h : RowsO w0 w n g rows) (o : Obj) : RowsO w0 (w.alloc o) n g rows := ⟨h.len, h.own.alloc o⟩
theorem bits_zero (n : Nat) : Bits (fun _ _ => false) (List.replicate n 0) := by
  intro i h j; simp
theorem arc_bits {R : Rel} {rows : List Nat} (hb : Bits R rows) {f t : Nat} (h : f < rows.length) : Bits (fun a b => R a b || (decide (a = f) && decide (b = t))) (rows.set f (rows[f] ||| 2 ^ t)) := by
  refine hb.set h (fun j => ?_) (fun a ha j => ?_)
  · rw [Nat.testBit_or, hb f h j, Nat.testBit_two_pow]
    simp [eq_comm]
  · simp [ha]
set_option maxHeartbeats 1600000 in
theorem impl_closure (n : Nat) (v : Value) (ars : List Arc2) (w : World) (h : IsArcs w v ars) (hn : n ≤ 60) (hok : ars.all (arcOk (n : Int)) = true) (hal : ars.length ≤ 2000) :
    Calls Try.prog 28 #[.int .i64 (n : Int), v] w fun e w' => ∃ g rows, e = .returned (.slice (some ⟨g, 0, none⟩) n n) ∧ RowsO w w' n g rows ∧ Bits (warsh (arcR ars) n) rows := by
  obtain ⟨A, c, rfl, h2, h3, rd⟩ := h
  unfold maxLen at h3
  have RD := Lib.hid rd
  have OK := Lib.hid hok
  have IN := Lib.hid (inR_arcs hok)
  clear rd hok
  go_enter Try.func28, Try.ntmps28
  go_wp2_with (at_make; refine wpList_mk1 rfl _ _ 52 rfl u64T (.int .u64 0) u64Z rfl (Below.refl _ _) _ _ _ _ n rfl rfl rfl rfl (by omega) (by simp only [maxLen]; omega) ?_; intro g w1 own1)
  have R1 : Hid (RowsO w w1 n g (List.replicate n 0)) := Lib.hid ⟨by simp, by simpa [u64V] using own1⟩
  clear own1
  go_loopw [14] (fun i wr => ∃ k : Nat, k ≤ ars.length ∧ i = .int .i64 k ∧ Hid (∃ rows, RowsO w wr n g rows ∧ Bits (arcR (ars.take k)) rows)) (fun i _ => ars.length - (intOf i).toNat)
  case atStart => exact ⟨0, Nat.zero_le _, rfl, Lib.hid ⟨_, R1.out, by rw [List.take_zero, arcR_nil]; exact bits_zero n⟩⟩
  case round =>
    obtain ⟨k, hk, rfl, HR⟩ := hrel
    obtain ⟨rows, ro, hb⟩ := HR.out
    by_cases hlt : k < ars.length
    · obtain ⟨b, off, rfl, d0, d1⟩ := rd_arc (RD.out.below ro.own.2) hlt
      have hlb := cell_lt d0
      have hlen := ro.len
      have hao := List.all_eq_true.1 OK.out ars[k] (List.getElem_mem hlt)
      unfold arcOk at hao
      rw [Bool.and_eq_true] at hao
      have a1 := inB_le hao.1
      have a2 := inB_le hao.2
      obtain ⟨f, hf⟩ : ∃ f : Nat, ars[k].1 = (f : Int) := ⟨ars[k].1.toNat, by omega⟩
      obtain ⟨t, ht⟩ : ∃ t : Nat, ars[k].2 = (t : Int) := ⟨ars[k].2.toNat, by omega⟩
      rw [hf] at a1 d0
      rw [ht] at a2 d1
      have hfn : f < n := by omega
      have hfl : f < rows.length := by omega
      have htn : t < 60 := by omega
      have h0k : (0 : Int) ≤ (k : Int) := by omega
      have h0f : (0 : Int) ≤ (f : Int) := by omega
      have h1f : (f : Int) < (n : Int) := by omega
      have h0t : (0 : Int) ≤ (t : Int) := by omega
      have cF := (ro.alloc (.cells #[.int .i64 (f : Int), .int .i64 (t : Int)] 47)).cell hfl
      have fF := (ro.alloc (.cells #[.int .i64 (f : Int), .int .i64 (t : Int)] 47)).free f
      have hs := shl_one htn
      have hs2 : IntKind.u64.wrap (2 ^ t) = ((2 ^ t : Nat) : Int) := by rw [← hs, show min t 64 = t from by omega]
      have hr64 : rows[f] < M64 := bits_lt hb (InR.mono_take IN.out k) hn hfl
      have ho := or_of hr64 (two_pow_lt htn)
      have RO := Lib.hid ro
      have HB := Lib.hid hb
      have HN : Hid (arcR (ars.take (k + 1)) = fun a b => arcR (ars.take k) a b || (decide (a = f) && decide (b = t))) := Lib.hid (by
        funext a b
        rw [arcR_take hlt, hf, ht]
        congr 1
        congr 1
        · rw [Bool.eq_iff_iff, decide_eq_true_eq, decide_eq_true_eq]; omega
        · rw [Bool.eq_iff_iff, decide_eq_true_eq, decide_eq_true_eq]; omega)
      clear ro hb HR hao hf ht
      go_wp2_with fail
      go_region
      generalize hX : bits .or .u64 ((rows[f] : Nat) : Int) (2 ^ t) = X
      have hX2 : X = ((rows[f] ||| 2 ^ t : Nat) : Int) := by rw [← hX]; rw [show ((2 : Int) ^ t) = ((2 ^ t : Nat) : Int) from by push_cast; rfl]; exact ho
      clear hX
      have RN : Hid (∃ rows', RowsO w (((wr.alloc (.cells #[.int .i64 (f : Int), .int .i64 (t : Int)] 47)).setCell ⟨g, f, none⟩ (.int .u64 X)).drew) n g rows' ∧ Bits (arcR (ars.take (k + 1))) rows') := Lib.hid ⟨rows.set f (rows[f] ||| 2 ^ t), by rw [hX2]; exact ((RO.out.alloc _).set f _).drew, by rw [HN.out]; exact arc_bits HB.out hfl⟩
      clear cF fF hs hs2 ho hX2
      go_wp2_with fail
      go_roundw
      case rel => exact ⟨k + 1, by omega, by go_num, RN⟩
      case measure => simp [intOf]; omega
    · have TK : Hid (ars.take k = ars) := Lib.hid (List.take_of_length_le (by omega))
      have R2 : Hid (RowsO w wr n g rows ∧ Bits (warsh (arcR ars) 0) rows) := Lib.hid ⟨ro, by have := hb; rwa [TK.out] at this⟩
      clear ro hb HR
      go_wp2_with fail
      go_loopw [32] (fun i wr => ∃ m : Nat, m ≤ n ∧ i = .int .i64 m ∧ Hid (∃ rows, RowsO w wr n g rows ∧ Bits (warsh (arcR ars) m) rows)) (fun i _ => n - (intOf i).toNat)
      case atStart => exact ⟨0, Nat.zero_le _, rfl, Lib.hid ⟨_, R2.out⟩⟩
      case round =>
        obtain ⟨m, hm, rfl, HM⟩ := hrel
        by_cases hmn : m < n
        · have h0m : (0 : Int) ≤ (m : Int) := by omega
          have h1m : (m : Int) < (n : Int) := by omega
          go_wp2_with fail
          go_loopw [37] (fun i wr => ∃ q : Nat, q ≤ n ∧ i = .int .i64 q ∧ Hid (∃ rows, RowsO w wr n g rows ∧ Bits (mixR (warsh (arcR ars) m) m q) rows)) (fun i _ => n - (intOf i).toNat)
          case atStart => exact ⟨0, Nat.zero_le _, rfl, Lib.hid (by obtain ⟨rows, h1, h2⟩ := HM.out; exact ⟨rows, h1, by rw [mixR_zero]; exact h2⟩)⟩
          case round =>
            obtain ⟨q, hq, rfl, HQ⟩ := hrel
            obtain ⟨rows, ro, hb⟩ := HQ.out
            have hlen := ro.len
            by_cases hqn : q < n
            · have hql : q < rows.length := by omega
              have hml : m < rows.length := by omega
              have h0q : (0 : Int) ≤ (q : Int) := by omega
              have h1q : (q : Int) < (n : Int) := by omega
              have cQ := ro.cell hql
              have cM := ro.cell hml
              have fQ := ro.free q
              have INM := InR.mix ((IN.out).warsh m) m q
              rw [Int.toNat_natCast] at INM
              have hq64 : rows[q] < M64 := bits_lt hb INM hn hql
              have hm64 : rows[m] < M64 := bits_lt hb INM hn hml
              have htest := test_of hq64 (show m < 60 by omega)
              have htest2 : (bits .and .u64 ((rows[q] : Int) / 2 ^ m) 1 == 1) = rows[q].testBit m := by rw [← htest, show min m 64 = m from by omega]
              have hor := or_of hq64 hm64
              have RO := Lib.hid ro
              have HB := Lib.hid hb
              have hbit := hb q hql m
              rw [mixR_at] at hbit
              clear ro hb HQ INM
              cases hw : warsh (arcR ars) m q m with
              | true =>
                rw [hw] at hbit
                rw [hbit] at htest htest2
                have HW := Lib.hid hw
                clear hbit hw
                go_wp2_with fail
                go_region
                have RN : Hid (∃ rows', RowsO w ((wr.setCell ⟨g, q, none⟩ (.int .u64 ((rows[q] ||| rows[m] : Nat) : Int))).drew) n g rows' ∧ Bits (mixR (warsh (arcR ars) m) m (q + 1)) rows') := Lib.hid ⟨_, (RO.out.set q _).drew, (by
                  refine HB.out.set hql (fun j => ?_) (fun a ha j => ?_)
                  · rw [Nat.testBit_or, HB.out q hql j, HB.out m hml j, mixR_at, mixR_row, mixR_succ, if_pos rfl]
                    unfold stepR
                    rw [HW.out]; simp
                  · rw [mixR_succ, if_neg ha])⟩
                clear cQ cM fQ htest htest2 hor
                go_wp2_with fail
                go_roundw
                case rel => exact ⟨q + 1, by omega, by go_num, RN⟩
                case measure => simp [intOf]; omega
              | false =>
                rw [hw] at hbit
                rw [hbit] at htest htest2
                have HW := Lib.hid hw
                have RN : Hid (∃ rows', RowsO w wr n g rows' ∧ Bits (mixR (warsh (arcR ars) m) m (q + 1)) rows') := Lib.hid ⟨_, RO.out, (by
                  intro a ha j
                  rw [HB.out a ha j, mixR_succ]
                  by_cases e : a = q
                  · subst e; rw [if_pos rfl, mixR_at]; unfold stepR; rw [HW.out]; simp
                  · rw [if_neg e])⟩
                clear hbit hw
                go_wp2_with fail
                go_roundw
                case rel => exact ⟨q + 1, by omega, by go_num, RN⟩
                case measure => simp [intOf]; omega
            · have RN : Hid (∃ rows', RowsO w wr n g rows' ∧ Bits (warsh (arcR ars) (m + 1)) rows') := Lib.hid ⟨_, ro, (by
                intro a ha j
                rw [hb a ha j, mixR_all (n := q) (by omega)]; rfl)⟩
              clear ro hb HQ
              go_wp2_with fail
              go_roundw
              case rel => exact ⟨m + 1, by omega, by go_num, RN⟩
              case measure => simp [intOf]; omega
        · obtain rfl : m = n := by omega
          obtain ⟨rows, h1, h2⟩ := HM.out
          have R9 := Lib.hid (And.intro h1 h2)
          clear h1 h2
          go_wp2_with fail
          go_ret
          exact ⟨g, rows, rfl, R9.out.1, R9.out.2⟩
end Go.Proofs.Ytfnjllaaadhbbaa
