/- Several texts in one: Bldr, ReadDec. -/
import Derived.Test.YtefcdpkficojgaaDoorKb28
import Derived.Lib.Builder
import Derived.Laws.Externs
import Derived.Test.YtefcdpkficojgaaDoorKb12
namespace Go.Proofs.YtefcdpkficojgaaDoor
open Go.RowKit
set_option linter.unusedVariables false


/-- a builder in block b, made since w0, that holds the bytes l -/
def BldB (w0 w : World) (b : Nat) (l : List UInt8) : Prop :=
  ∃ p v, w.heap[b]? = some (.cells #[p, v] 109 (0, 0)) ∧ (p = .pointer none ∨ p = .pointer (some ⟨b, 0, none⟩)) ∧ OutB w0 w v l ∧ w0.heap.size ≤ b
/-- all but block b and the rows of bytes is as it was -/
abbrev KeepW (b : Nat) (w w' : World) : Prop := Keep (fun i => i ≠ b ∧ Sane 5 w i) w w'
theorem KeepW.trans' {b : Nat} {u v x : World} (h : KeepW b u v) (k : KeepW b v x) : KeepW b u x := Keep.trans h k (fun i hi hS => ⟨hS.1, fun cur e => hS.2 cur ((h.block i hi hS).symm.trans e)⟩)
theorem KeepW.of_below' {b : Nat} {w w' : World} (h : Below w.heap.size w w') : KeepW b w w' := Keep.of_below h
theorem KeepW.cellW {b : Nat} {w w' : World} (h : KeepW b w w') {p : Addr} {v : Value} (hb : p.block ≠ b) (hS : Sane 5 w p.block) (hv : w.cell? p = some v) : w'.cell? p = some v := h.cellEq ⟨hb, hS⟩ hv
theorem KeepW.sane {b : Nat} {w w' : World} {k : Nat} (h : KeepW b w w') (hb : k ≠ b) (hS : Sane 5 w k) (hk : k < w.heap.size) : Sane 5 w' k := fun cur e => hS cur ((h.block k hk ⟨hb, hS⟩).symm.trans e)
theorem BldB.lt {w0 w : World} {b : Nat} {l : List UInt8} (h : BldB w0 w b l) : b < w.heap.size := by
  obtain ⟨p, v, hb, _⟩ := h
  exact lt_of_block hb
theorem BldB.own {w0 w : World} {b : Nat} {l : List UInt8} (h : BldB w0 w b l) : Below w0.heap.size w0 w := by
  obtain ⟨p, v, _, _, ho, _⟩ := h
  exact ho.own
theorem BldB.below {w0 w w' : World} {b : Nat} {l : List UInt8} (h : BldB w0 w b l) (hb : Below w.heap.size w w') : BldB w0 w' b l := by
  obtain ⟨p, v, h1, h2, h3, h4⟩ := h
  exact ⟨p, v, (hb.block b (lt_of_block h1)).trans h1, h2, h3.below hb, h4⟩
theorem BldB.sane {w0 w : World} {b : Nat} {l : List UInt8} (h : BldB w0 w b l) : Sane 5 w b := by
  obtain ⟨p, v, h1, _⟩ := h
  exact sane_of h1 (by decide)
/-- 'var b strings.Builder' -/
theorem BldB.new (w : World) : BldB w (w.alloc (.cells #[.pointer none, .slice none 0 0] 109)) w.heap.size [] :=
  ⟨_, _, heap_alloc_new _ _, .inl rfl, ⟨World.ownsRow_nil _ _ _ _, Below.alloc (Below.refl _ _) (Nat.le_refl _) _⟩, Nat.le_refl _⟩
theorem BldB.is {w0 w : World} {b : Nat} {l : List UInt8} (h : BldB w0 w b l) : Lib.IsBuilder 109 5 w0.heap.size b (bv l) w := by
  obtain ⟨p, v, h1, h2, h3, h4⟩ := h
  have hne : v.ownBlock ≠ some b := Lib.ownBlock_ne (T := 109) h3.1 h1 (by decide)
  have h5 : w.ownsRow w0.heap.size 5 1 v (bv l).length (bv l) := by rw [bv_length]; exact h3.1
  rcases h2 with rfl | rfl
  · exact .inl ⟨h4, v, h1, h5, hne⟩
  · exact .inr ⟨h4, v, h1, h5, hne⟩
theorem lies_bld : liesAt Tryd.prog Tryd.prog.depth 109 (2 / Tryd.prog.cellsOf 109) 0 109 1 = true := by kernel_rfl
theorem size_bld : (Tryd.prog.info? 109).map (·.size) = some 2 := by kernel_rfl
set_option maxHeartbeats 1000000 in
set_option maxRecDepth 100000 in
theorem bld_check_used (b : Nat) (w : World) (h0 : w.cell? ⟨b, 0, none⟩ = some (.pointer (some ⟨b, 0, none⟩))) :
    Calls Tryd.prog 176 #[.pointer (some ⟨b, 0, none⟩)] w fun e w' => e = .returned (.tuple #[]) ∧ w' = w := by
  obtain ⟨j, hj, _⟩ := Option.map_eq_some_iff.1 size_bld
  go_enter Tryd.func176, Tryd.ntmps176
  go_wp2
  rw [Lib.run_neq_ptr_same w _ Tryd.underlying107 hj]
  go_wp2
  go_end0
  exact ⟨rfl, rfl⟩
set_option maxHeartbeats 1000000 in
set_option maxRecDepth 100000 in
theorem bld_check_fresh (b : Nat) (w : World) (h0 : w.cell? ⟨b, 0, none⟩ = some (.pointer none)) (hsh : w.shape? b = some (109, 2)) (hfz : w.frozen? ⟨b, 0, none⟩ = false) :
    Calls Tryd.prog 176 #[.pointer (some ⟨b, 0, none⟩)] w fun e w' => e = .returned (.tuple #[]) ∧ w' = w.setCell ⟨b, 0, none⟩ (.pointer (some ⟨b, 0, none⟩)) := by
  obtain ⟨j, hj, hjs⟩ := Option.map_eq_some_iff.1 size_bld
  go_enter Tryd.func176, Tryd.ntmps176
  go_wp2
  rw [Lib.run_to_unsafe w ⟨b, 0, none⟩ Tryd.underlying107 Tryd.underlying229 hj (by rw [hjs]; decide) hsh (Nat.zero_lt_succ 1)]
  simp only [Result.andThen]
  rw [Oper.upon_value]
  go_wp2
  rw [run_callFunc_extern Tryd.func214 (by kernel_rfl) (by kernel_rfl) (by kernel_rfl) (e := Extern.AbiNoEscape.same) (by kernel_rfl)]
  rw [Lib.run_noEscape]
  simp only [Result.andThen]
  rw [Oper.upon_value]
  go_wp2
  rw [Lib.run_from_unsafe w ⟨b, 0, none⟩ Tryd.underlying229 Tryd.underlying107 hj hsh lies_bld]
  simp only [Result.andThen]
  rw [Oper.upon_value]
  go_wp2
  go_end0
  exact ⟨rfl, rfl⟩
theorem OutB.setOther {w0 w : World} {v : Value} {l : List UInt8} (h : OutB w0 w v l) {b : Nat} (hb : w0.heap.size ≤ b) (hne : v.ownBlock ≠ some b) (o : Nat) (u : Value) : OutB w0 (w.setCell ⟨b, o, none⟩ u) v l :=
  ⟨h.1.kept (row := some b) ⟨rfl, rfl, rfl, by simp [World.setCell], fun k _ hk => Below.heap_setCell _ _ _ _ (fun e => hk (by simp [e]))⟩ (Or.inr hne), h.2.setCell (p := ⟨b, o, none⟩) hb _⟩
/-- behind copyCheck the builder holds its own address -/
theorem bld_check (b : Nat) (w0 w : World) (l : List UInt8) (h : BldB w0 w b l) :
    Calls Tryd.prog 176 #[.pointer (some ⟨b, 0, none⟩)] w fun e w' => e = .returned (.tuple #[]) ∧ (∃ v, w'.heap[b]? = some (.cells #[.pointer (some ⟨b, 0, none⟩), v] 109 (0, 0)) ∧ OutB w0 w' v l) ∧ KeepW b w w' := by
  obtain ⟨p, v, h1, h2, h3, h4⟩ := h
  have c0 : w.cell? ⟨b, 0, none⟩ = some p := by rw [Lib.cell_of_heap h1]; rfl
  rcases h2 with rfl | rfl
  · refine (bld_check_fresh b w c0 (by simp [World.shape?, h1]) (Lib.frozen_of_heap h1 0)).mono ?_
    rintro e w' ⟨rfl, rfl⟩
    have hne : v.ownBlock ≠ some b := Lib.ownBlock_ne (T := 109) h3.1 h1 (by decide)
    refine ⟨rfl, ⟨v, by simp [World.setCell, Array.getElem?_modify, h1], h3.setOther h4 hne _ _⟩, (Keep.refl _ _).setCell (fun hS => hS.1 rfl) _⟩
  · refine (bld_check_used b w c0).mono ?_
    rintro e w' ⟨rfl, rfl⟩
    exact ⟨rfl, ⟨v, h1, h3⟩, Keep.refl _ _⟩
set_option maxHeartbeats 2000000 in
set_option maxRecDepth 100000 in
theorem bld_write (b : Nat) (w0 w : World) (l : List UInt8) (s : ByteArray) (h : BldB w0 w b l) (hb : l.length + s.size ≤ 100000000000) :
    Calls Tryd.prog 112 #[.pointer (some ⟨b, 0, none⟩), .string s] w fun e w' => e = .returned (.tuple #[.int .i64 s.size, .nilIface]) ∧ BldB w0 w' b (l ++ s.data.toList) ∧ KeepW b w w' := by
  have h4 : w0.heap.size ≤ b := by obtain ⟨_, _, _, _, _, h4⟩ := h; exact h4
  have HB := Lib.hid h
  clear h
  go_enter Tryd.func112, Tryd.ntmps112
  go_wp2_with fail
  refine (bld_check b w0 _ l HB.out).mono ?_
  rintro e w1 ⟨rfl, ⟨v, hbk, own⟩, k1⟩
  have K1 := Lib.hid k1
  have O1 := Lib.hid own
  have HK := Lib.hid hbk
  have c0 : w1.cell? ⟨b, 0, none⟩ = some (.pointer (some ⟨b, 0, none⟩)) := by rw [Lib.cell_of_heap hbk]; rfl
  have c1 : w1.cell? ⟨b, 1, none⟩ = some v := by rw [Lib.cell_of_heap hbk]; rfl
  clear k1 own hbk
  go_wp2_with (at_builtin; refine wpList_outB_str rfl _ _ rfl rfl O1.out s rfl hb ?_; intro v2 w2 own2 kp2; have O2 := Lib.hid own2; have K2 := Lib.hid (Grew.keepB kp2 O1.out); have hne2 := Lib.ownBlock_ne (T := 109) O1.out.1 HK.out (by decide); have HK2 := Lib.hid ((kp2.keep.block b (lt_of_block HK.out) (fun e => hne2 e)).trans HK.out); clear own2 kp2 hne2; have d0 : w2.cell? ⟨b, 0, none⟩ = some (.pointer (some ⟨b, 0, none⟩)) := (by rw [Lib.cell_of_heap HK2.out]; rfl); have d1 : w2.cell? ⟨b, 1, none⟩ = some v := (by rw [Lib.cell_of_heap HK2.out]; rfl); have f1 : w2.frozen? ⟨b, 1, none⟩ = false := Lib.frozen_of_heap HK2.out 1; obtain ⟨A2, c2, rfl, _⟩ := O2.out.slice)
  go_ret2
  refine ⟨rfl, ⟨_, _, by simp [World.setCell, Array.getElem?_modify, HK2.out], .inr rfl, O2.out.setOther h4 (Lib.ownBlock_ne (T := 109) O2.out.1 HK2.out (by decide)) _ _, h4⟩, ?_⟩
  exact (KeepW.trans' K1.out (Keep.mono K2.out (fun _ _ h => h.2))).setCell (fun hS => hS.1 rfl) _

def isDig (c : UInt8) : Bool := decide (48 ≤ c.toNat) && decide (c.toNat ≤ 57)
def valL (l : List UInt8) : Nat := l.foldl (fun n c => n * 10 + (c.toNat - 48)) 0
theorem valL_snoc (l : List UInt8) (c : UInt8) : valL (l ++ [c]) = valL l * 10 + (c.toNat - 48) := by simp [valL]
theorem valL_lt (l : List UInt8) (h : l.all isDig = true) : valL l < 10 ^ l.length := by
  have key : ∀ (l : List UInt8) (n m : Nat), l.all isDig = true → n < 10 ^ m → l.foldl (fun n c => n * 10 + (c.toNat - 48)) n < 10 ^ (m + l.length) := by
    intro l
    induction l with
    | nil => intro n m _ h; exact h
    | cons c r ih =>
      intro n m ha h
      rw [List.all_cons, Bool.and_eq_true] at ha
      have hc := ha.1
      unfold isDig at hc
      rw [Bool.and_eq_true, decide_eq_true_eq, decide_eq_true_eq] at hc
      have h2 : n * 10 + (c.toNat - 48) < 10 ^ (m + 1) := by rw [Nat.pow_succ]; omega
      have := ih _ (m + 1) ha.2 h2
      rw [List.foldl_cons, List.length_cons, show m + (r.length + 1) = m + 1 + r.length from by omega]
      exact this
  have := key l 0 0 h (by decide)
  rw [Nat.zero_add] at this
  exact this
theorem valL_bd (l : List UInt8) (h : l.all isDig = true) (hl : l.length ≤ 10) : valL l < 10000000000 :=
  Nat.lt_of_lt_of_le (valL_lt l h) (Nat.pow_le_pow_right (n := 10) (by decide) hl)
def readD (s : ByteArray) : Int × Bool :=
  if s.size ≤ 10 ∧ s.data.toList.all isDig = true ∧ valL s.data.toList ≤ 1000000000 ∧ (⟨(Lib.itoa (valL s.data.toList : Int)).toArray⟩ : ByteArray) = s then ((valL s.data.toList : Int), true) else (0, false)
theorem readD_yes {s : ByteArray} (h1 : s.size ≤ 10) (h2 : s.data.toList.all isDig = true) (h3 : valL s.data.toList ≤ 1000000000) (h4 : (⟨(Lib.itoa (valL s.data.toList : Int)).toArray⟩ : ByteArray) = s) : readD s = ((valL s.data.toList : Int), true) := by
  unfold readD; rw [if_pos ⟨h1, h2, h3, h4⟩]
theorem readD_no {s : ByteArray} (h : ¬ s.size ≤ 10 ∨ s.data.toList.all isDig = false ∨ ¬ valL s.data.toList ≤ 1000000000 ∨ (⟨(Lib.itoa (valL s.data.toList : Int)).toArray⟩ : ByteArray) ≠ s) : readD s = (0, false) := by
  unfold readD
  rw [if_neg]
  rintro ⟨h1, h2, h3, h4⟩
  rcases h with h | h | h | h
  · exact h h1
  · rw [h2] at h; cases h
  · exact h h3
  · exact h h4
theorem dig_no (s : ByteArray) (k : Nat) (h : k < s.size) (hb : isDig s[k] = false) : s.data.toList.all isDig = false := by
  rw [List.all_eq_false]
  have hm : s[k] ∈ s.data.toList := by
    have h2 : k < s.data.toList.length := by simpa using h
    have : s.data.toList[k] = s[k] := rfl
    rw [← this]; exact List.getElem_mem h2
  exact ⟨_, hm, by simp [hb]⟩
theorem take_snoc (s : ByteArray) (k : Nat) (h : k < s.size) : s.data.toList.take (k + 1) = s.data.toList.take k ++ [s[k]] := by
  rw [List.take_succ_eq_append_getElem (by simpa using h)]
  rfl
theorem str_eq_list (l : List UInt8) (s : ByteArray) : (l == s.toList) = decide ((⟨l.toArray⟩ : ByteArray) = s) := by
  rw [← str_eq, Lib.toList_data (⟨l.toArray⟩ : ByteArray)]
theorem empty_read : readD ByteArray.empty = (0, false) := readD_no (.inr (.inr (.inr (by
  have e : valL ByteArray.empty.data.toList = 0 := rfl
  rw [e, show ((0 : Nat) : Int) = 0 from rfl, itoa_zero]
  intro h
  have := congrArg ByteArray.size h
  exact absurd this (by decide)))))
set_option maxHeartbeats 1600000 in
theorem impl_ReadDecimal (s : ByteArray) (w : World) (tab : Lib.TabIs Tryd.prog w "internal/strconv.uint64pow10" .u64 Lib.pow10Tab) :
    Calls Tryd.prog 132 #[.string s] w fun e w' => e = .returned (.tuple #[.int .i64 (readD s).1, .bool (readD s).2]) ∧ Below w.heap.size w w' := by
  have TB := Lib.hid tab
  clear tab
  by_cases hz : s.size = 0
  · have F : Hid (readD s = (0, false)) := Lib.hid (by
      have : s = ByteArray.empty := str_ext (List.eq_nil_of_length_eq_zero (by simpa using hz))
      rw [this]; exact empty_read)
    go_enter Tryd.func132, Tryd.ntmps132
    go_wp2_with fail
    go_ret2
    rw [F.out]
    exact ⟨rfl, Below.refl _ _⟩
  have hz' : ((s.size : Int) == 0) = false := beq_eq_false_iff_ne.2 (by omega)
  have hzz : s.size ≠ 0 := hz
  by_cases hl : 10 < s.size
  · have F := Lib.hid (readD_no (s := s) (.inl (by omega)))
    go_enter Tryd.func132, Tryd.ntmps132
    go_wp2_with fail
    go_ret2
    rw [F.out]
    exact ⟨rfl, Below.refl _ _⟩
  go_enter Tryd.func132, Tryd.ntmps132
  go_wp2_with fail
  go_loopw [4, 5] (fun nv i wr => ∃ k : Nat, k ≤ s.size ∧ i = .int .i64 k ∧ nv = .int .i64 (valL (s.data.toList.take k) : Int) ∧ wr = w ∧ Hid ((s.data.toList.take k).all isDig = true)) (fun _ i _ => s.size - (intOf i).toNat)
  case atStart => exact ⟨0, Nat.zero_le _, rfl, rfl, rfl, Lib.hid rfl⟩
  case round =>
    obtain ⟨k, hk, rfl, rfl, rfl, HA⟩ := hrel
    have hv := valL_bd _ HA.out (by rw [List.length_take]; omega)
    by_cases hlt : k < s.size
    · have h0k : (0 : Int) ≤ (k : Int) := by omega
      have h1k : (k : Int) < (s.size : Int) := by omega
      have hcb : s[k].toNat < 256 := s[k].toNat_lt
      have HN := Lib.hid (dig_no s k hlt)
      have HS := Lib.hid (take_snoc s k hlt)
      by_cases c1 : s[k].toNat < 48
      · have F := Lib.hid (readD_no (s := s) (.inr (.inl (HN.out (by unfold isDig; rw [decide_eq_false (by omega)]; rfl)))))
        have c1' : (s[k].toNat : Int) < 48 := by omega
        clear c1
        go_wp2_with fail
        go_ret2
        rw [F.out]
        exact ⟨rfl, Below.refl _ _⟩
      · by_cases c2 : 57 < s[k].toNat
        · have F := Lib.hid (readD_no (s := s) (.inr (.inl (HN.out (by unfold isDig; rw [decide_eq_false (p := s[k].toNat ≤ 57) (by omega)]; simp)))))
          have c1' : ¬ (s[k].toNat : Int) < 48 := by omega
          have c2' : 57 < (s[k].toNat : Int) := by omega
          clear c1 c2
          go_wp2_with fail
          go_ret2
          rw [F.out]
          exact ⟨rfl, Below.refl _ _⟩
        · have c1' : ¬ (s[k].toNat : Int) < 48 := by omega
          have c2' : ¬ 57 < (s[k].toNat : Int) := by omega
          have HV : Hid ((valL (s.data.toList.take (k + 1)) : Int) = (valL (s.data.toList.take k) : Int) * 10 + ((s[k].toNat : Int) - 48)) := Lib.hid (by rw [HS.out, valL_snoc]; omega)
          have HA2 : Hid ((s.data.toList.take (k + 1)).all isDig = true) := Lib.hid (by
            rw [HS.out, List.all_append, HA.out]
            have e : isDig s[k] = true := by unfold isDig; rw [decide_eq_true (by omega), decide_eq_true (by omega)]; rfl
            simp only [List.all_cons, List.all_nil, e]; rfl)
          clear c1 c2 HS
          go_wp2_with fail
          go_roundw
          case rel => exact ⟨k + 1, by omega, by go_num, by rw [HV.out]; try (congr 1; omega), by first | rfl | trivial, HA2⟩
          case measure => simp [intOf]; omega
    · have hT : s.data.toList.take k = s.data.toList := List.take_of_length_le (by simp; omega)
      rw [hT] at hv HA ⊢
      have F2 := Lib.hid (readD_no (s := s))
      have F1 := Lib.hid (readD_yes (s := s) (by omega) HA.out)
      have FM : Hid (readD s = readD s) := Lib.hid rfl
      generalize hm : valL s.data.toList = m at *
      have HM := Lib.hid hm
      clear hT hm
      by_cases g1 : m ≤ 1000000000
      · have g1' : ¬ (1000000000 : Int) < (m : Int) := by omega
        have q := str_eq_list (Lib.itoa (m : Int)) s
        have hz0 : (-9223372036854775808 : Int) ≤ (m : Int) := by omega
        have hz1 : (m : Int) ≤ 9223372036854775807 := by omega
        by_cases g2 : (⟨(Lib.itoa (m : Int)).toArray⟩ : ByteArray) = s
        · have F := Lib.hid (F1.out g1 g2)
          have G2 := Lib.hid g2
          rw [decide_eq_true g2] at q
          have Q := Lib.hid q
          clear g2 q
          go_wp2_with fail
          refine (impl_Decimal (m : Int) hz0 hz1 _ TB.out).mono ?_
          rintro e w1 ⟨rfl, b1⟩
          have B1 := Lib.hid b1
          have q := Q.out
          clear b1
          go_wp2_with fail
          go_ret2
          rw [F.out]
          exact ⟨rfl, B1.out⟩
        · have F := Lib.hid (F2.out (.inr (.inr (.inr g2))))
          rw [decide_no g2] at q
          have Q := Lib.hid q
          clear g2 q
          go_wp2_with fail
          refine (impl_Decimal (m : Int) hz0 hz1 _ TB.out).mono ?_
          rintro e w1 ⟨rfl, b1⟩
          have B1 := Lib.hid b1
          have q := Q.out
          clear b1
          go_wp2_with fail
          go_ret2
          rw [F.out]
          exact ⟨rfl, B1.out⟩
      · have g1' : (1000000000 : Int) < (m : Int) := by omega
        have F := Lib.hid (F2.out (.inr (.inr (.inl g1))))
        go_wp2_with fail
        go_ret2
        rw [F.out]
        exact ⟨rfl, Below.refl _ _⟩
end Go.Proofs.YtefcdpkficojgaaDoor
