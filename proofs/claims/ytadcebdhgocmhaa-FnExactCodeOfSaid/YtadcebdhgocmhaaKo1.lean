/- Lemmas for the row. -/
import Derived.Test.YtadcebdhgocmhaaRows
import Derived.WalkKit
import Derived.WalkSpells
import Derived.WalkLawsBesides
import Derived.Lib.Hide
import Derived.Lib.Strings
import Derived.Deep.AppendLies
import Derived.RegionTactic
import Derived.Deep.Draws
import Derived.Laws.BytesArg
namespace Go.Proofs.Ytadcebdhgocmhaa
open Go.RowKit
set_option linter.unusedVariables false
theorem ret_int {k : IntKind} {a b : Int} (h : a = b) : Ending.returned (.int k a) = .returned (.int k b) := by rw [h]
theorem ret_bool {a b : Bool} (h : a = b) : Ending.returned (.bool a) = .returned (.bool b) := by rw [h]
theorem ret_str {a b : ByteArray} (h : a = b) : Ending.returned (.string a) = .returned (.string b) := by rw [h]
theorem size_list (s : ByteArray) : s.data.toList.length = s.size := by simp
theorem decide_no {p : Prop} [Decidable p] (h : ¬ p) : decide p = false := by simpa using h
theorem bool_no {b : Bool} (h : ¬ b = true) : b = false := by simpa using h
theorem str_ext {s t : ByteArray} (h : s.data.toList = t.data.toList) : s = t := by
  rcases s with ⟨⟨l⟩⟩; rcases t with ⟨⟨r⟩⟩; simp at h; rw [h]
theorem str_eq (s t : ByteArray) : (s.toList == t.toList) = decide (s = t) := by
  rw [Lib.toList_data, Lib.toList_data, Bool.eq_iff_iff]
  simp only [beq_iff_eq, decide_eq_true_eq]
  exact ⟨str_ext, fun h => by rw [h]⟩
theorem take_eq_succ {α : Type} {l r : List α} {k : Nat} (h : l.take k = r.take k) (h1 : k < l.length) (h2 : k < r.length) (e : l[k] = r[k]) : l.take (k + 1) = r.take (k + 1) := by
  have e1 : l.take (k + 1) = l.take k ++ [l[k]] := List.take_succ_eq_append_getElem h1
  have e2 : r.take (k + 1) = r.take k ++ [r[k]] := List.take_succ_eq_append_getElem h2
  rw [e1, e2, h, e]
structure ElemT (P : Program) (t e : TypeId) (sz bt : Nat) : Prop where
  under : P.underlying t = some (.slice e)
  info : ∃ i z, P.info? e = some i ∧ i.zero = some z ∧ i.size = sz ∧ i.bytes = bt ∧ z.cells.size = sz
  pos : 0 < sz
theorem ElemT.mk' {P : Program} {t e : TypeId} {z : Value} {sz bt : Nat} (h : P.underlying t = some (.slice e)) (hi : (P.info? e).map (fun i => (i.zero, i.size, i.bytes)) = some (some z, sz, bt))
    (hz : z.cells.size = sz) (hp : 0 < sz) : ElemT P t e sz bt :=
  ⟨h, by obtain ⟨i, a, b, c, d⟩ := info_parts hi; exact ⟨i, z, a, b, c, d, hz⟩, hp⟩
theorem cell_lt {w : World} {p : Addr} {u : Value} (h : w.cell? p = some u) : p.block < w.heap.size := by
  rcases Nat.lt_or_ge p.block w.heap.size with hlt | hge
  · exact hlt
  · unfold World.cell? at h; rw [Array.getElem?_eq_none hge] at h; simp at h
def Rd (w : World) (sz : Nat) (A : Option Addr) (n : Nat) (xs : List Value) : Prop :=
  xs.length = n * sz ∧ (0 < n → ∃ b off, A = some ⟨b, off, none⟩ ∧ ∀ j u, xs[j]? = some u → w.cell? ⟨b, off + j, none⟩ = some u)
theorem Rd.nil {w : World} {sz : Nat} {A : Option Addr} : Rd w sz A 0 [] := ⟨by simp, fun h => absurd h (by omega)⟩
theorem Rd.keep {w w' : World} {sz n : Nat} {A : Option Addr} {xs : List Value} (h : Rd w sz A n xs) (hk : ∀ p : Addr, p.block < w.heap.size → w'.cell? p = w.cell? p) : Rd w' sz A n xs :=
  ⟨h.1, fun hn => by
    obtain ⟨b, off, e, hc⟩ := h.2 hn
    exact ⟨b, off, e, fun j u hu => (hk _ (cell_lt (hc j u hu))).trans (hc j u hu)⟩⟩
theorem Rd.below {w w' : World} {sz n : Nat} {A : Option Addr} {xs : List Value} (h : Rd w sz A n xs) (hb : Below w.heap.size w w') : Rd w' sz A n xs := h.keep fun _ hp => hb.cell hp
theorem Rd.drew {w : World} {sz n : Nat} {A : Option Addr} {xs : List Value} (h : Rd w sz A n xs) : Rd w.drew sz A n xs := h
theorem Rd.drewN {w : World} {sz n : Nat} {A : Option Addr} {xs : List Value} (h : Rd w sz A n xs) (k : Nat) : Rd (w.drewN k) sz A n xs := h
theorem Rd.alloc {w : World} {sz n : Nat} {A : Option Addr} {xs : List Value} (h : Rd w sz A n xs) (o : Obj) : Rd (w.alloc o) sz A n xs := h.keep fun p hp => World.cell?_alloc_lt w o p hp
theorem Rd.new (w : World) (sz m : Nat) (cs : Array Value) (e : TypeId) (h : cs.size = m * sz) : Rd (w.alloc (.cells cs e)) sz (some ⟨w.heap.size, 0, none⟩) m cs.toList :=
  ⟨by simpa using h, fun _ => ⟨w.heap.size, 0, rfl, fun j u hu => by rw [Nat.zero_add, World.cell?_alloc_new]; simpa using hu⟩⟩
theorem Rd.of_own {w : World} {base : Nat} {e : TypeId} {sz n c : Nat} {A : Option Addr} {xs : List Value} (h : w.ownsRow base e sz (.slice A n c) n xs) : Rd w sz A n xs := by
  refine ⟨h.1, fun hn => ?_⟩
  obtain ⟨g, cap, hv, _, hlt⟩ := h.form hn
  have hA : A = some ⟨g, 0, none⟩ := by injection hv
  subst hA
  exact ⟨g, 0, rfl, fun j u hu => by have := h.cells (g := g) rfl j u hu; simpa [Addr.add_lit] using this⟩
theorem own_slice {w : World} {base : Nat} {e : TypeId} {sz n : Nat} {v : Value} {xs : List Value} (h : w.ownsRow base e sz v n xs) : ∃ A c, v = .slice A n c ∧ n ≤ c := by
  rcases h.2 with ⟨rfl, rfl⟩ | ⟨g, cap, cur, rfl, _, _, hc, _⟩
  · exact ⟨none, 0, rfl, Nat.le_refl _⟩
  · exact ⟨_, cap, rfl, hc⟩
def Own (w0 w : World) (e : TypeId) (sz : Nat) (v : Value) (n : Nat) (xs : List Value) : Prop := w.ownsRow w0.heap.size e sz v n xs ∧ Below w0.heap.size w0 w
theorem Own.lit {w0 w : World} (h : Below w0.heap.size w0 w) (e : TypeId) (sz n : Nat) (cs : Array Value) (hm : n ≤ maxLen) (hs : cs.size = n * sz) : Own w0 (w.alloc (.cells cs e)) e sz (.slice (some ⟨w.heap.size, 0, none⟩) n n) n cs.toList :=
  ⟨World.ownsRow_lit w cs n h.size hm hs, h.alloc h.size _⟩
theorem Own.startB {w0 w : World} (h : Below w0.heap.size w0 w) (e : TypeId) (sz : Nat) : Own w0 w e sz (.slice none 0 0) 0 [] := ⟨World.ownsRow_nil _ _ _ _, h⟩
theorem Own.alloc {w0 w : World} {e : TypeId} {sz n : Nat} {v : Value} {xs : List Value} (h : Own w0 w e sz v n xs) (o : Obj) : Own w0 (w.alloc o) e sz v n xs := ⟨h.1.alloc o, h.2.alloc h.2.size o⟩
theorem Own.drew {w0 w : World} {e : TypeId} {sz n : Nat} {v : Value} {xs : List Value} (h : Own w0 w e sz v n xs) : Own w0 w.drew e sz v n xs := ⟨h.1, h.2.drew⟩
theorem Own.below {w0 w w' : World} {e : TypeId} {sz n : Nat} {v : Value} {xs : List Value} (h : Own w0 w e sz v n xs) (hb : Below w.heap.size w w') : Own w0 w' e sz v n xs :=
  ⟨h.1.kept (row := none) ⟨hb.os, hb.tape, hb.output, hb.size, fun k hk _ => hb.block k hk⟩ (by cases hv : v.ownBlock <;> simp), h.2.trans (hb.mono h.2.size)⟩
theorem Own.rd {w0 w : World} {e : TypeId} {sz n c : Nat} {A : Option Addr} {xs : List Value} (h : Own w0 w e sz (.slice A n c) n xs) : Rd w sz A n xs := Rd.of_own h.1
theorem Own.slice {w0 w : World} {e : TypeId} {sz n : Nat} {v : Value} {xs : List Value} (h : Own w0 w e sz v n xs) : ∃ A c, v = .slice A n c ∧ n ≤ c := own_slice h.1
theorem Own.grown {w0 w w' : World} {e : TypeId} {sz n n' : Nat} {v v' : Value} {xs xs' : List Value} (h : Own w0 w e sz v n xs) (h2 : w'.ownsRow w0.heap.size e sz v' n' xs') (hg : w.grownBy w' v.ownBlock) : Own w0 w' e sz v' n' xs' :=
  ⟨h2, h.2.grown hg h.2.size fun k hk => (h.1.lt k hk).1⟩
theorem Own.cellAt {w0 w : World} {e : TypeId} {sz g n cap : Nat} {xs : List Value} (h : Own w0 w e sz (.slice (some ⟨g, 0, none⟩) n cap) n xs) {j : Nat} (hj : j < n * sz) {u : Value} (hu : xs[j]? = some u) : w.cell? ⟨g, j, none⟩ = some u := by
  rw [h.1.cellAt j hj]; exact hu
theorem Own.freeAt {w0 w : World} {e : TypeId} {sz g n cap : Nat} {xs : List Value} (h : Own w0 w e sz (.slice (some ⟨g, 0, none⟩) n cap) n xs) (j : Nat) : w.frozen? ⟨g, j, none⟩ = false := h.1.frozenAt j
theorem Own.set {w0 w : World} {e : TypeId} {sz g n cap : Nat} {xs : List Value} (h : Own w0 w e sz (.slice (some ⟨g, 0, none⟩) n cap) n xs) (j : Nat) (u : Value) : Own w0 (w.setCell ⟨g, j, none⟩ u) e sz (.slice (some ⟨g, 0, none⟩) n cap) n (xs.set j u) :=
  have hs := h.1.stored j u
  ⟨hs.1, h.2.grown hs.2 h.2.size fun k hk => by
    have hk' : k = g := by injection hk with hk; exact hk.symm
    exact (h.1.lt k (by rw [hk']; rfl)).1⟩
def part {α : Type} (ys : List α) (z : α) (k : Nat) : List α := ys.take k ++ List.replicate (ys.length - k) z
theorem part_zero {α : Type} (ys : List α) (z : α) : part ys z 0 = List.replicate ys.length z := by simp [part]
theorem part_all {α : Type} (ys : List α) (z : α) {k : Nat} (h : ys.length ≤ k) : part ys z k = ys := by
  unfold part; rw [List.take_of_length_le h, Nat.sub_eq_zero_of_le h]; simp
theorem part_get {α : Type} (ys : List α) (z : α) {k : Nat} (h : k < ys.length) : (part ys z k)[k]? = some z := by
  unfold part
  have hl : (ys.take k).length = k := by simp; omega
  rw [List.getElem?_append_right (by omega), hl, Nat.sub_self, List.getElem?_replicate, if_pos (by omega)]
theorem part_set {α : Type} (ys : List α) (z : α) {k : Nat} (h : k < ys.length) : (part ys z k).set k ys[k] = part ys z (k + 1) := by
  unfold part
  have hl : (ys.take k).length = k := by simp; omega
  have e : ys.length - k = (ys.length - (k + 1)) + 1 := by omega
  have e2 : ys.take (k + 1) = ys.take k ++ [ys[k]] := List.take_succ_eq_append_getElem h
  rw [List.set_append_right _ _ (by omega), hl, Nat.sub_self, e, List.replicate_succ, List.set_cons_zero, e2, List.append_assoc]
  rfl
section
variable {P : Program} {w0 w : World}
end
def Qt (w w' : World) : Prop := ∃ n, w' = w.drewN n
theorem Qt.refl (w : World) : Qt w w := ⟨0, rfl⟩
theorem Qt.of_drewN (w : World) (n : Nat) : Qt w (w.drewN n) := ⟨n, rfl⟩
theorem below_drewN {B : Nat} {a w : World} (h : Below B a w) (n : Nat) : Below B a (w.drewN n) := ⟨h.os, h.tape, h.output, h.size, h.block⟩
theorem Qt.below {w w' : World} (h : Qt w w') : Below w.heap.size w w' := by
  obtain ⟨n, rfl⟩ := h
  exact below_drewN (Below.refl _ _) n
theorem Qt.trans {a b c : World} (h : Qt a b) (k : Qt b c) : Qt a c := by
  obtain ⟨n, rfl⟩ := h
  obtain ⟨m, rfl⟩ := k
  exact ⟨n + m, by rw [World.drewN_drewN]⟩
theorem below_then {a b c : World} (h : Below a.heap.size a b) (k : Below b.heap.size b c) : Below a.heap.size a c := h.trans (k.mono h.size)
def bv (l : List UInt8) : List Value := l.map fun c => Value.int .u8 (c.toNat : Int)
theorem bv_length (l : List UInt8) : (bv l).length = l.length := by simp [bv]
theorem bv_cons (c : UInt8) (l : List UInt8) : bv (c :: l) = Value.int .u8 (c.toNat : Int) :: bv l := rfl
theorem strOf_bv (l : List UInt8) : strOfNums (l.map fun c => (c.toNat : Int)) = ⟨l.toArray⟩ := by
  have h : (l.map fun c => (c.toNat : Int)).map (fun n : Int => UInt8.ofNat n.toNat) = l := by
    rw [List.map_map]
    conv => rhs; rw [← List.map_id l]
    congr 1
    funext c
    simp
  unfold strOfNums
  rw [h]
theorem run_str {P : Program} {w : World} (src e dst : TypeId) (hs : P.underlying src = some (.slice e)) (he : P.underlying e = some (.int .u8)) (hd : P.underlying dst = some .string) {A : Option Addr} {n : Nat} (c : Nat) {l : List UInt8}
    (rd : Rd w 1 A n (bv l)) : (convert src dst (.slice A n c)).run P w = .ok (.string ⟨l.toArray⟩) w := by
  have hn : l.length = n := by have := rd.1; rw [bv_length] at this; omega
  rcases Nat.eq_zero_or_pos n with h0 | h0
  · subst h0
    have hl : l = [] := List.eq_nil_of_length_eq_zero hn
    subst hl
    rcases A with _ | ⟨b, off, sp⟩
    · exact run_convert_bytes_nil w src e hs he 0 c dst hd
    · rw [run_convert_bytes_string w src dst e _ 0 c hs he hd, run_bytesToString w _ 0 c [] (by simp [loadCells, loadCellsFrom])]
      rfl
  · obtain ⟨b, off, rfl, hc⟩ := rd.2 h0
    rw [run_convert_bytes_arg w src e hs he b off n c (l.map fun c => (c.toNat : Int)) (by simpa using hn) (fun i hi => ?_) dst hd, strOf_bv]
    have hi' : i < l.length := by omega
    have e1 : (bv l)[i]? = some (Value.int .u8 (l[i].toNat : Int)) := by simp [bv, List.getElem?_eq_getElem hi']
    rw [hc i _ e1]
    simp [List.getD, List.getElem?_eq_getElem hi']
end Go.Proofs.Ytadcebdhgocmhaa
