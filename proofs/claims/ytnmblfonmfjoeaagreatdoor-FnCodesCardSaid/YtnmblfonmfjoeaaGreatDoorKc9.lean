/- Lemmas for the row. -/
import Derived.Test.YtnmblfonmfjoeaaGreatDoorKc8
import Derived.Test.YtnmblfonmfjoeaaGreatDoorKc5
import Derived.Deep.RegionLaw
import Derived.Deep.CutRange
namespace Go.Proofs.YtnmblfonmfjoeaaGreatDoor
open Go.RowKit
set_option maxHeartbeats 1600000
set_option linter.unusedVariables false
def zeroTm : Tm := .mk 0 0 ByteArray.empty []
theorem empty_of {s : ByteArray} (h : s.toList.isEmpty = true) : s = ByteArray.empty := by
 rw [Lib.toList_data] at h
 apply str_ext
 rw [List.isEmpty_iff.1 h]; rfl
theorem zero_iff (k n : Int) (s : ByteArray) (kids : List Tm) : sameB (.mk k n s kids) zeroTm = ((k == 0) && (n == 0) && s.toList.isEmpty && ((kids.length : Int) == 0)) := by
 cases h : ((k == 0) && (n == 0) && s.toList.isEmpty && ((kids.length : Int) == 0)) with
 | true =>
  simp only [Bool.and_eq_true, beq_iff_eq] at h
  obtain ⟨⟨⟨h1, h2⟩, h3⟩, h4⟩ := h
  have e4 : kids = [] := List.eq_nil_of_length_eq_zero (by omega)
  exact sameB_yes (by rw [h1, h2, empty_of h3, e4]; rfl)
 | false =>
  refine sameB_no fun e => ?_
  unfold zeroTm at e
  injection e with e1 e2 e3 e4
  subst e1 e2 e3 e4
  have h3 : (ByteArray.empty).toList.isEmpty = true := by rw [Lib.toList_data]; rfl
  rw [h3] at h
  simp at h
theorem impl_isZeroTerm (t : Tm) (k n : Int) (s : ByteArray) (A : Option Addr) (m c : Nat) (w : World) (ht : TmIs AnyB w [.int .i64 k, .int .i64 n, .string s, .slice A m c] t) :
  Calls Tryz.prog 61 #[.agg #[.int .i64 k, .int .i64 n, .string s, .slice A m c]] w fun e w' => e = .returned (.bool (sameB t zeroTm)) ∧ Below w.heap.size w w' := by
 obtain ⟨kids, rfl, rfl, hl, hc, _⟩ := ht.inv
 unfold maxLen at hc
 clear ht
 rw [zero_iff]
 cases h1 : (k == 0) <;> cases h2 : (n == 0) <;> cases h3 : s.toList.isEmpty <;> cases h4 : ((kids.length : Int) == 0)
 all_goals
  go_enter Tryz.func61, Tryz.ntmps61
  go_wp2_with fail
  go_ret
  exact ⟨rfl, zB⟩
structure Env where
 G : List ByteArray
 L : List ByteArray
 P : List ByteArray
def icOf (e : Env) (k : Int) (s : ByteArray) (t : Tm) : Ic :=
 if k = 1 then ⟨1, placeS e.G s, t, 0⟩ else if k = 4 then ⟨4, placeS e.P s, zeroTm, 0⟩ else if k = 5 then ⟨5, placeS e.P s, zeroTm, 0⟩
 else if k = 6 then ⟨6, placeS e.L s, zeroTm, 0⟩ else if k = 7 then ⟨7, placeS e.L s, zeroTm, 0⟩ else ⟨8, 0, zeroTm, 0⟩
mutual
def emT (e : Env) : Nat → St → List Ic
 | n, .mk k s t b el =>
  if k = 3 then ⟨2, 0, t, ((n + 1 + (emSs e (n + 1) b).length + 1 : Nat) : Int)⟩ :: (emSs e (n + 1) b ++ [⟨3, 0, zeroTm, (n : Int)⟩])
  else if k = 2 then
   if el.length = 0 then ⟨2, 0, t, ((n + 1 + (emSs e (n + 1) b).length : Nat) : Int)⟩ :: emSs e (n + 1) b
   else ⟨2, 0, t, ((n + 1 + (emSs e (n + 1) b).length + 1 : Nat) : Int)⟩ :: (emSs e (n + 1) b ++ ⟨3, 0, zeroTm, ((n + 1 + (emSs e (n + 1) b).length + 1 + (emSs e (n + 1 + (emSs e (n + 1) b).length + 1) el).length : Nat) : Int)⟩ :: emSs e (n + 1 + (emSs e (n + 1) b).length + 1) el)
  else [icOf e k s t]
def emSs (e : Env) : Nat → List St → List Ic
 | _, [] => []
 | n, g :: r => emT e n g ++ emSs e (n + (emT e n g).length) r
end
theorem emSs_nil (e : Env) (n : Nat) : emSs e n [] = [] := by rw [emSs]
theorem emSs_snoc (e : Env) (g : St) : ∀ (l : List St) (n : Nat), emSs e n (l ++ [g]) = emSs e n l ++ emT e (n + (emSs e n l).length) g
 | [], n => by simp [emSs]
 | a :: r, n => by
  rw [List.cons_append, emSs, emSs, emSs_snoc e g r, List.append_assoc, List.length_append, Nat.add_assoc]
theorem emT_while (e : Env) (n : Nat) (s : ByteArray) (t : Tm) (b el : List St) : emT e n (.mk 3 s t b el) = ⟨2, 0, t, ((n + 1 + (emSs e (n + 1) b).length + 1 : Nat) : Int)⟩ :: (emSs e (n + 1) b ++ [⟨3, 0, zeroTm, (n : Int)⟩]) := by rw [emT, if_pos rfl]
theorem emT_if0 (e : Env) (n : Nat) (s : ByteArray) (t : Tm) (b el : List St) (h : el.length = 0) : emT e n (.mk 2 s t b el) = ⟨2, 0, t, ((n + 1 + (emSs e (n + 1) b).length : Nat) : Int)⟩ :: emSs e (n + 1) b := by rw [emT, if_neg (by decide), if_pos rfl, if_pos h]
theorem emT_if1 (e : Env) (n : Nat) (s : ByteArray) (t : Tm) (b el : List St) (h : ¬ el.length = 0) : emT e n (.mk 2 s t b el) = ⟨2, 0, t, ((n + 1 + (emSs e (n + 1) b).length + 1 : Nat) : Int)⟩ :: (emSs e (n + 1) b ++ ⟨3, 0, zeroTm, ((n + 1 + (emSs e (n + 1) b).length + 1 + (emSs e (n + 1 + (emSs e (n + 1) b).length + 1) el).length : Nat) : Int)⟩ :: emSs e (n + 1 + (emSs e (n + 1) b).length + 1) el) := by rw [emT, if_neg (by decide), if_pos rfl, if_neg h]
theorem emT_one (e : Env) (n : Nat) (k : Int) (s : ByteArray) (t : Tm) (b el : List St) (h3 : ¬ k = 3) (h2 : ¬ k = 2) : emT e n (.mk k s t b el) = [icOf e k s t] := by rw [emT, if_neg h3, if_neg h2]
mutual
theorem emT_len (e : Env) : ∀ (n : Nat) (g : St), (emT e n g).length ≤ 2 * snodes g
 | n, .mk k s t b el => by
  have h1 := emSs_len e (n + 1) b
  have h2 := emSs_len e (n + 1 + (emSs e (n + 1) b).length + 1) el
  rw [snodes]
  by_cases h3 : k = 3
  ·subst h3; rw [emT_while]; simp; omega
  ·by_cases h2' : k = 2
   ·subst h2'
    by_cases h0 : el.length = 0
    ·rw [emT_if0 _ _ _ _ _ _ h0]; simp; omega
    ·rw [emT_if1 _ _ _ _ _ _ h0]; simp; omega
   ·rw [emT_one _ _ _ _ _ _ _ h3 h2']; simp; omega
theorem emSs_len (e : Env) : ∀ (n : Nat) (l : List St), (emSs e n l).length ≤ 2 * snodess l
 | n, [] => by simp [emSs]
 | n, g :: r => by
  have h1 := emT_len e n g
  have h2 := emSs_len e (n + (emT e n g).length) r
  rw [emSs, snodess, List.length_append]
  omega
end
mutual
def kdT : St → Prop | .mk k _ _ b e => 1 ≤ k ∧ k ≤ 8 ∧ kdSs b ∧ kdSs e
def kdSs : List St → Prop | [] => True | g :: r => kdT g ∧ kdSs r
end
theorem kdSs_mem {l : List St} {x : St} (h : kdSs l) (hx : x ∈ l) : kdT x := by
 induction l with
 | nil => cases hx
 | cons a r ih =>
  rw [kdSs] at h
  rcases List.mem_cons.1 hx with rfl | h2
  ·exact h.1
  ·exact ih h.2 h2
def IcP (w : World) (G : Nat → Prop) (cells : List Value) (i : Ic) : Prop := ∃ x : V7, cells = x.cells ∧ x.op = i.op ∧ x.arg = i.arg ∧ x.to = i.to ∧ i64in i.op ∧ i64in i.arg ∧ i64in i.to ∧ TmO w G x.term i.term
theorem IcP.keepP : KeepsP IcP := fun _ _ _ _ _ ⟨x, e, a, b, c, d, f, g, t⟩ hk => ⟨x, e, a, b, c, d, f, g, t.keep hk⟩
abbrev GrwI (base : Nat) (Z : Nat → Prop) (w : World) (v : Value) (l : List Ic) : Prop := GrwX IcP 45 7 base Z w v l
theorem zeroO (w : World) (F : Nat → Prop) : TmO w F [.int .i64 0, .int .i64 0, .string ⟨#[]⟩, .slice none 0 0] zeroTm :=
 TmO.mk' (kids := []) (by unfold i64in; omega) (by unfold i64in; omega) (Nat.zero_le _) (Nat.le_refl _) (Nat.zero_le _) ⟨[], fun _ _ => False, RowO.nil _ _ _ _ _, fun i h => absurd h (by simp)⟩
theorem icP_zero (w : World) (op arg t6 : Int) (h1 : i64in op) (h2 : i64in arg) (h3 : i64in t6) : IcP w NoB [.int .i64 op, .int .i64 arg, .int .i64 0, .int .i64 0, .string ⟨#[]⟩, .slice none 0 0, .int .i64 t6] ⟨op, arg, zeroTm, t6⟩ :=
 ⟨⟨op, arg, 0, 0, ⟨#[]⟩, none, 0, 0, t6⟩, rfl, rfl, rfl, rfl, h1, h2, h3, zeroO w NoB⟩
theorem icP_term {w : World} {F : Nat → Prop} {k n : Int} {s : ByteArray} {A : Option Addr} {m c : Nat} {t : Tm} (op arg : Int) (h1 : i64in op) (h2 : i64in arg) (ht : TmO w F [.int .i64 k, .int .i64 n, .string s, .slice A m c] t) : IcP w F [.int .i64 op, .int .i64 arg, .int .i64 k, .int .i64 n, .string s, .slice A m c, .int .i64 0] ⟨op, arg, t, 0⟩ :=
 ⟨⟨op, arg, k, n, s, A, m, c, 0⟩, rfl, rfl, rfl, rfl, h1, h2, by show i64in 0; unfold i64in; omega, ht⟩
theorem IcP.to {w : World} {F : Nat → Prop} {cells : List Value} {i : Ic} (h : IcP w F cells i) (z : Int) (hz : i64in z) : IcP w F (cells.set 6 (.int .i64 z)) ⟨i.op, i.arg, i.term, z⟩ := by
 obtain ⟨x, rfl, a, b, c, d, f, g, t⟩ := h
 exact ⟨⟨x.op, x.arg, x.k, x.n, x.s, x.A, x.m, x.c, z⟩, rfl, a, b, rfl, d, f, hz, t⟩
theorem IcP.len {w : World} {F : Nat → Prop} {cells : List Value} {i : Ic} (h : IcP w F cells i) : cells.length = 7 := by
 obtain ⟨x, rfl, _⟩ := h
 rfl
theorem placeS_range (ss : List ByteArray) (x : ByteArray) : -1 ≤ placeS ss x ∧ placeS ss x < (ss.length : Int) ∨ placeS ss x = -1 := by
 unfold placeS
 cases h : ss.findIdx? (fun s => decide (s = x)) with
 | none => exact .inr rfl
 | some k =>
  obtain ⟨hk, _⟩ := List.findIdx?_eq_some_iff_getElem.1 h
  exact .inl (by simp only; omega)
theorem placeS_in (ss : List ByteArray) (x : ByteArray) (h : ss.length ≤ 1000000000) : i64in (placeS ss x) := by
 have h1 := placeS_range ss x
 unfold i64in
 omega
def StrsF (F : Nat → Prop) (w : World) (v : Value) (ss : List ByteArray) : Prop := ∃ A c, v = .slice A ss.length c ∧ ss.length ≤ c ∧ c ≤ maxLen ∧ Rd w 1 A ss.length (ss.map Value.string) ∧ ∀ b off, A = some ⟨b, off, none⟩ → 0 < ss.length → F b
theorem StrsF.is {F : Nat → Prop} {w : World} {v : Value} {ss : List ByteArray} (h : StrsF F w v ss) : IsStrs w v ss := by
 obtain ⟨A, c, rfl, h1, h2, h3, _⟩ := h
 exact ⟨A, c, rfl, h1, h2, h3⟩
theorem StrsF.keep {F F' : Nat → Prop} {w w' : World} {v : Value} {ss : List ByteArray} (h : StrsF F w v ss) (hk : ∀ p : Addr, p.block < w.heap.size → F p.block → w'.cell? p = w.cell? p) (hF : ∀ b, b < w.heap.size → F b → F' b) : StrsF F' w' v ss := by
 obtain ⟨A, c, rfl, h1, h2, h3, h4⟩ := h
 obtain ⟨q1, q2⟩ := rd_keepB (by decide) h3 h4 hk hF
 exact ⟨A, c, rfl, h1, h2, q1, q2⟩
abbrev Fz (base : Nat) (Z : Nat → Prop) (kb : Nat) : Nat → Prop := fun b => b ≠ kb ∧ (b < base ∨ Z b)
theorem keep_cell {F : Nat → Prop} {w w' : World} (k : Keep F w w') : ∀ p : Addr, p.block < w.heap.size → F p.block → w'.cell? p = w.cell? p := fun p hp hF => World.cell?_of_block (k.block p.block hp hF)
theorem step_appG {w0 w : World} {v : Value} {n : Nat} {xs : List Value} {o : Oper} {a : Act} {Q : Exit → Act → World → Prop} {ops : Array Oper} {K : Act → World → Prop} {E : Prop} (t : TypeId) {e : TypeId} {sz bt : Nat} (T : ElemT Tryz.prog t e sz bt) (hgd : o.guard = none) (sl x : Operand) (ho : o.op = .call { callee := .builtin .append, args := #[sl, x], argTypes := #[t, t] }) (hs : a.eval sl = v) (own : Own w0 w e sz v n xs) (A : Option Addr) (m c : Nat) (news : List Value) (hx : a.eval x = .slice A m c) (rd : Rd w sz A m news) (h1 : ∀ u ∈ news, u.oneCell' = true) (hb : n + m ≤ 2000000) (hbt : bt ≤ 1000)
  (h : ∀ v' w', Own w0 w' e sz v' (n + m) (xs ++ news) → Grew v v' w w' → K (a.put o.dst v') w') : if Region.wanted o (yielded ops a.tmps) = true then Oper.wp Tryz.prog o a w K Q else E := by
 have hw : Region.wanted o (yielded ops a.tmps) = true := by simp [Region.wanted, hgd]
 rw [if_pos hw]
 obtain ⟨v', w', hr, h2, h3⟩ := run_appG (P := Tryz.prog) t o.type e sz bt T v n xs own A m c news rd h1 (by simp only [maxLen]; omega) (Nat.le_trans (Nat.mul_le_mul hb hbt) (by decide))
 unfold Oper.wp execOp
 simp only [ho, resolve, invoke, builtin, Sem.run_bind, Sem.run_pure, Result.andThen_ok, List.map_toArray, List.map_cons, List.map_nil, hs, hx, hr]
 exact h v' w' h2 h3
set_option maxRecDepth 100000 in
theorem spec_l03Copy (t : Tm) : CpS t := by
 induction hN : nodes t using Nat.strongRecOn generalizing t with
 | ind N ih =>
  intro k n s A m c w ht htot
  obtain ⟨kids, rfl, rfl, hl, hc, hk, hn, hs, row⟩ := ht.inv
  have IH : Hid (∀ x ∈ kids, CpS x) := qh fun x hx => ih (nodes x) (by rw [← hN]; exact kid_lt hx) x rfl
  have RW := qh row
  have htk : totTs kids ≤ 1048576 := by rw [totT] at htot; omega
  have hlen := totTs_len kids
  have HT := qh (fun t (hm : t ∈ kids) => show totT t ≤ 1048576 from by have := totTs_le hm; omega)
  have KK := qh hk
  have NN := qh hn
  have SS := qh hs
  unfold maxLen at hc
  clear ih hN ht row htot hk hn hs
  go_enter Tryz.func56, Tryz.ntmps56
  go_wp2_with fail
  have BA : Hid (Below w.heap.size w ((w.alloc (.cells #[.int .i64 k, .int .i64 n, .string s, .slice A kids.length c] 43)).alloc (.cells #[.int .i64 0, .int .i64 0, .string ⟨#[]⟩, .slice none 0 0] 43))) := qh zB
  have V1 : Hid (((w.alloc (.cells #[.int .i64 k, .int .i64 n, .string s, .slice A kids.length c] 43)).alloc (.cells #[.int .i64 0, .int .i64 0, .string ⟨#[]⟩, .slice none 0 0] 43)).heap[w.heap.size]? = some (.cells #[.int .i64 k, .int .i64 n, .string s, .slice A kids.length c] 43 (0, 0))) := qh ((heap_alloc_lt (by simp)).trans (heap_alloc_new _ _))
  have V2 : Hid (((w.alloc (.cells #[.int .i64 k, .int .i64 n, .string s, .slice A kids.length c] 43)).alloc (.cells #[.int .i64 0, .int .i64 0, .string ⟨#[]⟩, .slice none 0 0] 43)).heap[w.heap.size + 1]? = some (.cells #[.int .i64 0, .int .i64 0, .string ⟨#[]⟩, .slice none 0 0] 43 (0, 0))) := qh (by have := heap_alloc_new (w.alloc (.cells #[.int .i64 k, .int .i64 n, .string s, .slice A kids.length c] 43)) (.cells #[.int .i64 0, .int .i64 0, .string ⟨#[]⟩, .slice none 0 0] 43); simpa using this)
  obtain ⟨wa, hwa⟩ : ∃ wa, (w.alloc (.cells #[.int .i64 k, .int .i64 n, .string s, .slice A kids.length c] 43)).alloc (.cells #[.int .i64 0, .int .i64 0, .string ⟨#[]⟩, .slice none 0 0] 43) = wa := ⟨_, rfl⟩
  have hza1 : wa.heap.size ≤ w.heap.size + 2 := by rw [← hwa]; simp
  have hza2 : w.heap.size + 2 ≤ wa.heap.size := by rw [← hwa]; simp
  (try rw [hwa] at BA V1 V2)
  (try rw [hwa])
  clear hwa
  obtain ⟨g1, hg1⟩ : ∃ g, w.heap.size = g := ⟨_, rfl⟩
  obtain ⟨g2, hg2⟩ : ∃ g, w.heap.size + 1 = g := ⟨_, rfl⟩
  have HG1 := qh hg1
  have HG2 := qh hg2
  have hn12 : ¬ g1 = g2 := by omega
  have hn21 : ¬ g2 = g1 := by omega
  rw [hg1] at V1
  rw [hg2] at V2
  (try rw [hg2])
  (try rw [hg1])
  obtain ⟨c0, c1, c2, c3, _, _, _, _⟩ := term4 V1.out
  clear hg1 hg2
  have B5 : Hid (Below wa.heap.size wa (wa.alloc (.cells #[.int .i64 k, .int .i64 n, .string s, .slice none 0 0] 43))) := qh (Below.alloc (Below.refl _ _) (Nat.le_refl _) _)
  have V5 : Hid ((wa.alloc (.cells #[.int .i64 k, .int .i64 n, .string s, .slice none 0 0] 43)).heap[wa.heap.size]? = some (.cells #[.int .i64 k, .int .i64 n, .string s, .slice none 0 0] 43 (0, 0))) := qh (heap_alloc_new _ _)
  have V15 := qh ((B5.out.block g1 (lt_of_block V1.out)).trans V1.out)
  have V25 := qh ((B5.out.block g2 (lt_of_block V2.out)).trans V2.out)
  clear V1 V2
  go_wp2_with fail
  obtain ⟨wb, hwb⟩ : ∃ wb, wa.alloc (.cells #[.int .i64 k, .int .i64 n, .string s, .slice none 0 0] 43) = wb := ⟨_, rfl⟩
  have hzb1 : wb.heap.size ≤ wa.heap.size + 1 := by rw [← hwb]; simp
  have hzb2 : wa.heap.size + 1 ≤ wb.heap.size := by rw [← hwb]; simp
  (try rw [hwb] at B5 V5 V15 V25)
  (try rw [hwb])
  obtain ⟨g3, hg3'⟩ : ∃ g, g2 + 1 = g := ⟨_, rfl⟩
  have hg3 : wa.heap.size = g3 := by have := HG2.out; omega
  have HG3 := qh hg3
  (try rw [hg3'])
  have hn13 : ¬ g1 = g3 := by have := HG1.out; omega
  have hn31 : ¬ g3 = g1 := by have := HG1.out; omega
  have hn23 : ¬ g2 = g3 := by have := HG2.out; omega
  have hn32 : ¬ g3 = g2 := by have := HG2.out; omega
  rw [hg3] at V5
  (try rw [hg3])
  have BB : Hid (Below w.heap.size w wb) := qh (below_then BA.out B5.out)
  clear hg3 hg3' hwb c0 c1 c2 c3 BA B5
  go_wp2_with fail
  go_loopw [4] (fun i wr => ∃ (j : Nat) (A' : Option Addr) (c' : Nat), j ≤ kids.length ∧ i = .int .i64 j ∧ Hid (GrwTm wb.heap.size wr (.slice A' (kids.take j).length c') (kids.take j) ∧ Keep (fun b => b ≠ g3) wb wr ∧ wr.heap[g3]? = some (.cells #[.int .i64 k, .int .i64 n, .string s, .slice A' j c'] 43 (0, 0)))) (fun i _ => kids.length - (intOf i).toNat)
  case atStart => exact ⟨0, none, 0, Nat.zero_le _, rfl, qh ⟨GrwX.nil (Nat.le_refl _), Keep.refl _ _, V5.out⟩⟩
  case round =>
   rename World => wr
   obtain ⟨j, A', c', hj, rfl, HR⟩ := hrel
   obtain ⟨hgr, hbl, hv3⟩ := HR.out
   have GR := qh hgr
   have KR := qh hbl
   have V3 := qh hv3
   have hsr := hbl.size
   have HV1 := qh ((hbl.block g1 (lt_of_block V15.out) hn13).trans V15.out)
   have HV2 := qh ((hbl.block g2 (lt_of_block V25.out) hn23).trans V25.out)
   have BR : Hid (Below w.heap.size w wr) := qh (BB.out.trans (hbl.below (by have := BB.out.size; omega) (fun b hb e => by have := HG3.out; have := HG1.out; omega)))
   clear hgr hbl hv3 HR
   obtain ⟨c0, c1, c2, c3, _, _, _, _⟩ := term4 HV1.out
   obtain ⟨d0', d1', d2', d3', _, _, _, ff3⟩ := term4 V3.out
   have hy3 := lt_of_block V3.out
   have hy1 := lt_of_block HV1.out
   by_cases hlt : j < kids.length
   ·obtain ⟨b, off, kd, nn, s', A1, m1, c1', rfl, _, d0, d1, d2, d3, hterm⟩ := rd_term (RW.out.belowA BR.out) hlt
    have HTm := qh hterm
    have h0k : (0 : Int) ≤ (j : Int) := by omega
    have h1k : (j : Int) < (kids.length : Int) := by omega
    have hlb := cell_lt d0
    have hjl : (kids.take j).length = j := by rw [List.length_take]; omega
    have hj6 : j + 1 ≤ 2000000 := by omega
    clear hterm
    go_upto_region 5 with fail
    go_region_law (first
     | (go_simp; go_at_call 56; have hcl := IH.out _ (List.getElem_mem hlt) kd nn s' A1 m1 c1' wr.drew (HTm.out.belowA (Below.refl _ _).drew) (HT.out _ (List.getElem_mem hlt)); refine hcl.mono ?_; clear hcl; rintro e wY ⟨k2, n2, s2, A2, m2, c2', rfl, ht2, b2⟩; have T2 := qh ht2; have BY : Hid (Below wr.heap.size wr wY) := qh (below_then (Below.refl _ _).drew b2); have VY := qh ((BY.out.block g3 hy3).trans V3.out); obtain ⟨z0, z1, z2, z3, _, _, _, zf⟩ := term4 VY.out; have hzY := lt_of_block VY.out; obtain ⟨cs, G, hat⟩ := GR.out; have HAT := qh hat; have OW := qh (hat.ow.keep (Keep.of_below (S := fun _ => True) BY.out) (fun _ _ => trivial)).own; rw [hjl] at OW; clear ht2 b2 hat)
     | (refine step_appG _ tmT (by rfl) _ _ (by rfl) (by rfl) (OW.out.alloc _) _ 1 1 [.int .i64 k2, .int .i64 n2, .string s2, .slice A2 m2 c2'] (by rfl) (by first | exact Rd.new _ 4 1 _ _ rfl | exact (Rd.new _ 4 1 _ _ rfl).drew) (by simp [Value.oneCell']) hj6 (by decide) ?_; intro v' wZ own' gr'; have GZ : Hid (Grew (.slice A' j c') v' wY wZ) := qh ((Grew.of_below (Below.alloc (Below.refl _ _) (Nat.le_refl _) _)).trans gr'); have hog : (Value.slice A' j c').ownBlock ≠ some g3 := (fun e => by have := OW.out.1.lt g3 e; have h2 := HAT.out.ow.2; rw [cutX_size (by have := BY.out.size; omega)] at this; have := HG3.out; omega); have VZ := qh ((GZ.out.keep.block g3 hzY hog).trans VY.out); obtain ⟨t0, t1, t2, t3, _, _, _, tf⟩ := term4 VZ.out; have hzZ := lt_of_block VZ.out; obtain ⟨A7, c7, rfl, _⟩ := own'.slice; have OWN := qh own'; clear own' gr'))
    all_goals
     have GN : Hid (GrwTm wb.heap.size wZ (.slice A7 (kids.take (j + 1)).length c7) (kids.take (j + 1))) := qh (by
      have e1 : kids.take (j + 1) = kids.take j ++ [kids[j]] := List.take_succ_eq_append_getElem hlt
      have e2 : (kids.take (j + 1)).length = j + 1 := by rw [List.length_take]; omega
      rw [e2, e1]
      refine grwx_app (S := fun _ => True) TmO.keepP HAT.out (Keep.of_below BY.out) (fun _ _ _ _ => trivial) rfl T2.out (fun b hb => ⟨hb.1, hb.2, id⟩) (fun _ _ => id) ?_ ?_
      ·rw [hjl]; exact OWN.out
      ·rw [hjl]; exact GZ.out)
     obtain ⟨wN, hwN⟩ : ∃ wN, wZ.setCell ⟨g3, 3, none⟩ (.slice A7 (j + 1) c7) = wN := ⟨_, rfl⟩
     have VN : Hid (wN.heap[g3]? = some (.cells #[.int .i64 k, .int .i64 n, .string s, .slice A7 (j + 1) c7] 43 (0, 0))) := qh (by rw [← hwN]; exact s4_3 VZ.out _)
     have GNN : Hid (GrwTm wb.heap.size wN (.slice A7 (kids.take (j + 1)).length c7) (kids.take (j + 1))) := qh (by rw [← hwN]; exact GN.out.keep TmO.keepP (S := fun b => b ≠ g3) (Keep.setCell (Keep.refl _ _) (p := ⟨g3, 3, none⟩) (by simp) _) (fun b hb _ _ => by show b ≠ g3; have := HG3.out; omega))
     have KN : Hid (Keep (fun b => b ≠ g3) wb wN) := qh (by
      rw [← hwN]
      refine Keep.setCell ?_ (p := ⟨g3, 3, none⟩) (by simp) _
      refine (KR.out.trans (Keep.of_below BY.out) (fun _ _ h => h)).trans GZ.out.keep (fun b hb _ e => ?_)
      have h1 := OW.out.1.lt b e
      have h2 := HAT.out.ow.2
      rw [cutX_size (by have := BY.out.size; omega)] at h1
      omega)
     rw [hwN]
     clear hwN c0 c1 c2 c3 d0' d1' d2' d3' ff3 z0 z1 z2 z3 zf t0 t1 t2 t3 tf d0 d1 d2 d3
     go_wp2_with fail
     go_roundw
     case rel => exact ⟨j + 1, A7, c7, by omega, by go_num, qh ⟨GNN.out, KN.out, VN.out⟩⟩
     case measure => simp [intOf]; omega
   ·have e : j = kids.length := by omega
    subst e
    obtain ⟨q0, q1, q2, q3, f0, f1, f2, f3⟩ := term4 HV2.out
    have hy2 := lt_of_block HV2.out
    have GE : Hid (GrwTm wb.heap.size wr (.slice A' kids.length c') kids) := qh (by have := GR.out; rw [List.take_length] at this; exact this)
    clear GR
    go_wp2_with fail
    obtain ⟨W, hW⟩ : ∃ W, (((wr.setCell ⟨g2, 0, none⟩ (.int .i64 k)).setCell ⟨g2, 1, none⟩ (.int .i64 n)).setCell ⟨g2, 2, none⟩ (.string s)).setCell ⟨g2, 3, none⟩ (.slice A' kids.length c') = W := ⟨_, rfl⟩
    have hts := s4_all HV2.out (.int .i64 k) (.int .i64 n) (.string s) (.slice A' kids.length c')
    have hblk : ∀ b, ¬ b = g2 → W.heap[b]? = wr.heap[b]? := fun b hb => by rw [← hW]; exact s4_blk _ _ _ _ hb
    have hzW : W.heap.size = wr.heap.size := by rw [← hW]; simp
    have hBW : Below w.heap.size w W := by
     rw [← hW]
     have h1 : w.heap.size ≤ g2 := by have := HG2.out; omega
     have h2 := BR.out
     exact (((h2.setCell (p := ⟨g2, 0, none⟩) h1 _).setCell (p := ⟨g2, 1, none⟩) h1 _).setCell (p := ⟨g2, 2, none⟩) h1 _).setCell (p := ⟨g2, 3, none⟩) h1 _
    rw [hW] at hts ⊢
    obtain ⟨z0, z1, z2, z3, _, _, _, _⟩ := term4 hts
    obtain ⟨_, _, hAc, hc1, hc2⟩ := GE.out.slice
    have hcc1 : kids.length ≤ c' := by injection hAc with _ _ e; omega
    have hcc2 : c' ≤ maxLen := by injection hAc with _ _ e; omega
    refine bodyPost_ret (v := .agg #[.int .i64 k, .int .i64 n, .string s, .slice A' kids.length c']) (by simp [results, Tryz.results56, go_sem, z0, z1, z2, z3]) rfl ⟨k, n, s, A', _, c', rfl, TmO.mk' KK.out NN.out SS.out hcc1 hcc2 ?_, hBW⟩
    have hsz := BB.out.size
    have hg2' := HG2.out
    exact TmRowO.sub (GE.out.rowO.keep fun b hb => hblk b (by have := hb.1; omega)) (fun b hb => ⟨by have := hb.1; omega, by have := hb.2; omega⟩)
theorem Own.setO {w0 w w0' : World} {e e' : TypeId} {sz sz' n n' g g' cap cap' : Nat} {xs xs' : List Value} (h : Own w0 w e sz (.slice (some ⟨g, 0, none⟩) n cap) n xs) (h' : Own w0' w e' sz' (.slice (some ⟨g', 0, none⟩) n' cap') n' xs') (hne : g ≠ g') (hg : w0.heap.size ≤ g') (j : Nat) (u : Value) :
  Own w0 (w.setCell ⟨g', j, none⟩ u) e sz (.slice (some ⟨g, 0, none⟩) n cap) n xs :=
 ⟨h.1.kept (h'.1.stored j u).2 (by simp [Value.ownBlock]; first | exact hne | exact fun e => hne e.symm | omega), h.2.setCell hg u⟩
def RdF (lo : Nat) (w : World) (sz : Nat) (A : Option Addr) (n : Nat) (xs : List Value) : Prop := Rd w sz A n xs ∧ ∀ b off, A = some ⟨b, off, none⟩ → 0 < n → lo ≤ b
theorem RdF.rd {lo : Nat} {w : World} {sz n : Nat} {A : Option Addr} {xs : List Value} (h : RdF lo w sz A n xs) : Rd w sz A n xs := h.1
theorem RdF.below {lo : Nat} {w w' : World} {sz n : Nat} {A : Option Addr} {xs : List Value} (h : RdF lo w sz A n xs) (hb : Below w.heap.size w w') : RdF lo w' sz A n xs := ⟨h.1.below hb, h.2⟩
theorem RdF.set {lo : Nat} {w : World} {sz n : Nat} {A : Option Addr} {xs : List Value} (h : RdF lo w sz A n xs) {p : Addr} (hp : p.block < lo) (u : Value) : RdF lo (w.setCell p u) sz A n xs :=
 ⟨⟨h.1.1, fun hn => by
  obtain ⟨b, off, e, hc⟩ := h.1.2 hn
  exact ⟨b, off, e, fun j v hv => by rw [World.cell?_setCell_other w p _ u (fun e2 => by subst e2; have := h.2 b off e hn; simp at hp; omega)]; exact hc j v hv⟩⟩, h.2⟩
theorem RdF.of_own {w0 w : World} {e : TypeId} {sz n c lo : Nat} {A : Option Addr} {xs : List Value} (h : Own w0 w e sz (.slice A n c) n xs) (hlo : lo ≤ w0.heap.size) : RdF lo w sz A n xs := by
 refine ⟨h.rd, fun b off e hn => ?_⟩
 subst e
 have := (h.1.lt b rfl).1
 omega
theorem inT : ElemT Tryz.prog 30 45 7 80 := ElemT.mk' (z := .agg #[.int .i64 0, .int .i64 0, .int .i64 0, .int .i64 0, .string ByteArray.empty, .slice none 0 0, .int .i64 0]) Tryz.underlying30 (by kernel_rfl) rfl (by decide)
end Go.Proofs.YtnmblfonmfjoeaaGreatDoor
