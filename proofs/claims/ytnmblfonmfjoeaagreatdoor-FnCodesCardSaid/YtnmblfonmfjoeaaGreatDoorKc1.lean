/- Lemmas for the row. -/
import Derived.Test.YtnmblfonmfjoeaaGreatDoorRows
import Derived.WalkKit
import Derived.WalkSpells
import Derived.WalkLawsBesides
import Derived.Lib.Hide
import Derived.Lib.Strings
import Derived.Deep.AppendLies
import Derived.RegionTactic
import Derived.Deep.Draws
import Derived.Laws.BytesArg
import Derived.ChangeArms
import Derived.DataReads
import Derived.WideShapes
import Derived.Deep.Slices
import Derived.OneCell
import Derived.Maps.AppendAt
namespace Go.Proofs.YtnmblfonmfjoeaaGreatDoor
open Go.RowKit
set_option linter.unusedVariables false
theorem qh {p : Prop} (h : p) : Hid p := h
theorem ret_int {k : IntKind} {a b : Int} (h : a = b) : Ending.returned (.int k a) = .returned (.int k b) := by rw [h]
theorem ret_bool {a b : Bool} (h : a = b) : Ending.returned (.bool a) = .returned (.bool b) := by rw [h]
theorem ret_str {a b : ByteArray} (h : a = b) : Ending.returned (.string a) = .returned (.string b) := by rw [h]
theorem size_list (s : ByteArray) : s.data.toList.length = s.size := by simp
theorem decide_no {p : Prop} [Decidable p] (h : ¬ p) : decide p = false := by simpa using h
theorem bool_no {b : Bool} (h : ¬ b = true) : b = false := by simpa using h
theorem str_ext {s t : ByteArray} (h : s.data.toList = t.data.toList) : s = t := by
 rcases s with ⟨⟨l⟩⟩; rcases t with ⟨⟨r⟩⟩; simp at h; rw [h]
theorem str_eq (s t : ByteArray) : (s.toList == t.toList) = decide (s = t) := by
 rw [Lib.toList_data, Lib.toList_data, Bool.eq_iff_iff]
 simp only [beq_iff_eq, decide_eq_true_eq]
 exact ⟨str_ext, fun h => by rw [h]⟩
theorem take_eq_succ {α : Type} {l r : List α} {k : Nat} (h : l.take k = r.take k) (h1 : k < l.length) (h2 : k < r.length) (e : l[k] = r[k]) : l.take (k + 1) = r.take (k + 1) := by
 have e1 : l.take (k + 1) = l.take k ++ [l[k]] := List.take_succ_eq_append_getElem h1
 have e2 : r.take (k + 1) = r.take k ++ [r[k]] := List.take_succ_eq_append_getElem h2
 rw [e1, e2, h, e]
structure ElemT (P : Program) (t e : TypeId) (sz bt : Nat) : Prop where
 under : P.underlying t = some (.slice e)
 info : ∃ i z, P.info? e = some i ∧ i.zero = some z ∧ i.size = sz ∧ i.bytes = bt ∧ z.cells.size = sz
 pos : 0 < sz
theorem ElemT.mk' {P : Program} {t e : TypeId} {z : Value} {sz bt : Nat} (h : P.underlying t = some (.slice e)) (hi : (P.info? e).map (fun i => (i.zero, i.size, i.bytes)) = some (some z, sz, bt))
  (hz : z.cells.size = sz) (hp : 0 < sz) : ElemT P t e sz bt :=
 ⟨h, by obtain ⟨i, a, b, c, d⟩ := info_parts hi; exact ⟨i, z, a, b, c, d, hz⟩, hp⟩
theorem cell_lt {w : World} {p : Addr} {u : Value} (h : w.cell? p = some u) : p.block < w.heap.size := by
 rcases Nat.lt_or_ge p.block w.heap.size with hlt | hge
 ·exact hlt
 ·unfold World.cell? at h; rw [Array.getElem?_eq_none hge] at h; simp at h
def Rd (w : World) (sz : Nat) (A : Option Addr) (n : Nat) (xs : List Value) : Prop :=
 xs.length = n * sz ∧ (0 < n → ∃ b off, A = some ⟨b, off, none⟩ ∧ ∀ j u, xs[j]? = some u → w.cell? ⟨b, off + j, none⟩ = some u)
theorem Rd.nil {w : World} {sz : Nat} {A : Option Addr} : Rd w sz A 0 [] := ⟨by simp, fun h => absurd h (by omega)⟩
theorem Rd.keep {w w' : World} {sz n : Nat} {A : Option Addr} {xs : List Value} (h : Rd w sz A n xs) (hk : ∀ p : Addr, p.block < w.heap.size → w'.cell? p = w.cell? p) : Rd w' sz A n xs :=
 ⟨h.1, fun hn => by
  obtain ⟨b, off, e, hc⟩ := h.2 hn
  exact ⟨b, off, e, fun j u hu => (hk _ (cell_lt (hc j u hu))).trans (hc j u hu)⟩⟩
theorem Rd.below {w w' : World} {sz n : Nat} {A : Option Addr} {xs : List Value} (h : Rd w sz A n xs) (hb : Below w.heap.size w w') : Rd w' sz A n xs := h.keep fun _ hp => hb.cell hp
theorem Rd.drew {w : World} {sz n : Nat} {A : Option Addr} {xs : List Value} (h : Rd w sz A n xs) : Rd w.drew sz A n xs := h
theorem Rd.drewN {w : World} {sz n : Nat} {A : Option Addr} {xs : List Value} (h : Rd w sz A n xs) (k : Nat) : Rd (w.drewN k) sz A n xs := h
theorem Rd.alloc {w : World} {sz n : Nat} {A : Option Addr} {xs : List Value} (h : Rd w sz A n xs) (o : Obj) : Rd (w.alloc o) sz A n xs := h.keep fun p hp => World.cell?_alloc_lt w o p hp
theorem Rd.new (w : World) (sz m : Nat) (cs : Array Value) (e : TypeId) (h : cs.size = m * sz) : Rd (w.alloc (.cells cs e)) sz (some ⟨w.heap.size, 0, none⟩) m cs.toList :=
 ⟨by simpa using h, fun _ => ⟨w.heap.size, 0, rfl, fun j u hu => by rw [Nat.zero_add, World.cell?_alloc_new]; simpa using hu⟩⟩
theorem Rd.of_own {w : World} {base : Nat} {e : TypeId} {sz n c : Nat} {A : Option Addr} {xs : List Value} (h : w.ownsRow base e sz (.slice A n c) n xs) : Rd w sz A n xs := by
 refine ⟨h.1, fun hn => ?_⟩
 obtain ⟨g, cap, hv, _, hlt⟩ := h.form hn
 have hA : A = some ⟨g, 0, none⟩ := by injection hv
 subst hA
 exact ⟨g, 0, rfl, fun j u hu => by have := h.cells (g := g) rfl j u hu; simpa [Addr.add_lit] using this⟩
theorem own_slice {w : World} {base : Nat} {e : TypeId} {sz n : Nat} {v : Value} {xs : List Value} (h : w.ownsRow base e sz v n xs) : ∃ A c, v = .slice A n c ∧ n ≤ c := by
 rcases h.2 with ⟨rfl, rfl⟩ | ⟨g, cap, cur, rfl, _, _, hc, _⟩
 ·exact ⟨none, 0, rfl, Nat.le_refl _⟩
 ·exact ⟨_, cap, rfl, hc⟩
def Own (w0 w : World) (e : TypeId) (sz : Nat) (v : Value) (n : Nat) (xs : List Value) : Prop := w.ownsRow w0.heap.size e sz v n xs ∧ Below w0.heap.size w0 w
theorem Own.lit {w0 w : World} (h : Below w0.heap.size w0 w) (e : TypeId) (sz n : Nat) (cs : Array Value) (hm : n ≤ maxLen) (hs : cs.size = n * sz) : Own w0 (w.alloc (.cells cs e)) e sz (.slice (some ⟨w.heap.size, 0, none⟩) n n) n cs.toList :=
 ⟨World.ownsRow_lit w cs n h.size hm hs, h.alloc h.size _⟩
theorem Own.startB {w0 w : World} (h : Below w0.heap.size w0 w) (e : TypeId) (sz : Nat) : Own w0 w e sz (.slice none 0 0) 0 [] := ⟨World.ownsRow_nil _ _ _ _, h⟩
theorem Own.alloc {w0 w : World} {e : TypeId} {sz n : Nat} {v : Value} {xs : List Value} (h : Own w0 w e sz v n xs) (o : Obj) : Own w0 (w.alloc o) e sz v n xs := ⟨h.1.alloc o, h.2.alloc h.2.size o⟩
theorem Own.drew {w0 w : World} {e : TypeId} {sz n : Nat} {v : Value} {xs : List Value} (h : Own w0 w e sz v n xs) : Own w0 w.drew e sz v n xs := ⟨h.1, h.2.drew⟩
theorem Own.below {w0 w w' : World} {e : TypeId} {sz n : Nat} {v : Value} {xs : List Value} (h : Own w0 w e sz v n xs) (hb : Below w.heap.size w w') : Own w0 w' e sz v n xs :=
 ⟨h.1.kept (row := none) ⟨hb.os, hb.tape, hb.output, hb.size, fun k hk _ => hb.block k hk⟩ (by cases hv : v.ownBlock <;> simp), h.2.trans (hb.mono h.2.size)⟩
theorem Own.rd {w0 w : World} {e : TypeId} {sz n c : Nat} {A : Option Addr} {xs : List Value} (h : Own w0 w e sz (.slice A n c) n xs) : Rd w sz A n xs := Rd.of_own h.1
theorem Own.slice {w0 w : World} {e : TypeId} {sz n : Nat} {v : Value} {xs : List Value} (h : Own w0 w e sz v n xs) : ∃ A c, v = .slice A n c ∧ n ≤ c := own_slice h.1
theorem Own.grown {w0 w w' : World} {e : TypeId} {sz n n' : Nat} {v v' : Value} {xs xs' : List Value} (h : Own w0 w e sz v n xs) (h2 : w'.ownsRow w0.heap.size e sz v' n' xs') (hg : w.grownBy w' v.ownBlock) : Own w0 w' e sz v' n' xs' :=
 ⟨h2, h.2.grown hg h.2.size fun k hk => (h.1.lt k hk).1⟩
theorem Own.cellAt {w0 w : World} {e : TypeId} {sz g n cap : Nat} {xs : List Value} (h : Own w0 w e sz (.slice (some ⟨g, 0, none⟩) n cap) n xs) {j : Nat} (hj : j < n * sz) {u : Value} (hu : xs[j]? = some u) : w.cell? ⟨g, j, none⟩ = some u := by
 rw [h.1.cellAt j hj]; exact hu
theorem Own.freeAt {w0 w : World} {e : TypeId} {sz g n cap : Nat} {xs : List Value} (h : Own w0 w e sz (.slice (some ⟨g, 0, none⟩) n cap) n xs) (j : Nat) : w.frozen? ⟨g, j, none⟩ = false := h.1.frozenAt j
theorem Own.set {w0 w : World} {e : TypeId} {sz g n cap : Nat} {xs : List Value} (h : Own w0 w e sz (.slice (some ⟨g, 0, none⟩) n cap) n xs) (j : Nat) (u : Value) : Own w0 (w.setCell ⟨g, j, none⟩ u) e sz (.slice (some ⟨g, 0, none⟩) n cap) n (xs.set j u) :=
 have hs := h.1.stored j u
 ⟨hs.1, h.2.grown hs.2 h.2.size fun k hk => by
  have hk' : k = g := by injection hk with hk; exact hk.symm
  exact (h.1.lt k (by rw [hk']; rfl)).1⟩
section
variable {P : Program} {w0 w : World}
end
def Qt (w w' : World) : Prop := ∃ n, w' = w.drewN n
theorem Qt.refl (w : World) : Qt w w := ⟨0, rfl⟩
theorem Qt.of_drewN (w : World) (n : Nat) : Qt w (w.drewN n) := ⟨n, rfl⟩
theorem below_drewN {B : Nat} {a w : World} (h : Below B a w) (n : Nat) : Below B a (w.drewN n) := ⟨h.os, h.tape, h.output, h.size, h.block⟩
theorem zB {n : Nat} {w w' : World} (h : Below n w w' := by repeat' first|exact .refl _ _|exact Nat.le_refl _|refine .alloc ?_ ?_ _|refine .setCell ?_ ?_ _|refine .drew ?_|refine below_drewN ?_ _|assumption|(simp;done)|(simp;omega)) : Below n w w' := h
theorem Qt.below {w w' : World} (h : Qt w w') : Below w.heap.size w w' := by
 obtain ⟨n, rfl⟩ := h
 exact below_drewN (Below.refl _ _) n
theorem Qt.trans {a b c : World} (h : Qt a b) (k : Qt b c) : Qt a c := by
 obtain ⟨n, rfl⟩ := h
 obtain ⟨m, rfl⟩ := k
 exact ⟨n + m, by rw [World.drewN_drewN]⟩
theorem below_then {a b c : World} (h : Below a.heap.size a b) (k : Below b.heap.size b c) : Below a.heap.size a c := h.trans (k.mono h.size)
def bv (l : List UInt8) : List Value := l.map fun c => Value.int .u8 (c.toNat : Int)
theorem bv_length (l : List UInt8) : (bv l).length = l.length := by simp [bv]
theorem bv_append (l r : List UInt8) : bv (l ++ r) = bv l ++ bv r := by simp [bv]
theorem bv_one (l : List UInt8) : ∀ u ∈ bv l, u.oneCell' = true := by
 intro u hu
 obtain ⟨c, _, rfl⟩ := List.mem_map.1 hu
 rfl
theorem strOf_bv (l : List UInt8) : strOfNums (l.map fun c => (c.toNat : Int)) = ⟨l.toArray⟩ := by
 have h : (l.map fun c => (c.toNat : Int)).map (fun n : Int => UInt8.ofNat n.toNat) = l := by
  rw [List.map_map]
  conv => rhs; rw [← List.map_id l]
  congr 1
  funext c
  simp
 unfold strOfNums
 rw [h]
theorem run_str {P : Program} {w : World} (src e dst : TypeId) (hs : P.underlying src = some (.slice e)) (he : P.underlying e = some (.int .u8)) (hd : P.underlying dst = some .string) {A : Option Addr} {n : Nat} (c : Nat) {l : List UInt8}
  (rd : Rd w 1 A n (bv l)) : (convert src dst (.slice A n c)).run P w = .ok (.string ⟨l.toArray⟩) w := by
 have hn : l.length = n := by have := rd.1; rw [bv_length] at this; omega
 rcases Nat.eq_zero_or_pos n with h0 | h0
 ·subst h0
  have hl : l = [] := List.eq_nil_of_length_eq_zero hn
  subst hl
  rcases A with _ | ⟨b, off, sp⟩
  ·exact run_convert_bytes_nil w src e hs he 0 c dst hd
  ·rw [run_convert_bytes_string w src dst e _ 0 c hs he hd, run_bytesToString w _ 0 c [] (by simp [loadCells, loadCellsFrom])]
   rfl
 ·obtain ⟨b, off, rfl, hc⟩ := rd.2 h0
  rw [run_convert_bytes_arg w src e hs he b off n c (l.map fun c => (c.toNat : Int)) (by simpa using hn) (fun i hi => ?_) dst hd, strOf_bv]
  have hi' : i < l.length := by omega
  have e1 : (bv l)[i]? = some (Value.int .u8 (l[i].toNat : Int)) := by simp [bv, List.getElem?_eq_getElem hi']
  rw [hc i _ e1]
  simp [List.getD, List.getElem?_eq_getElem hi']
theorem str_size (l : List UInt8) : ((⟨l.toArray⟩ : ByteArray)).size = l.length := by simp [ByteArray.size]
theorem flat_get {α : Type} (f : α → List Value) (sz : Nat) (hf : ∀ x, (f x).length = sz) (xs : List α) (k j : Nat) (hk : k < xs.length) (hj : j < sz) : (xs.flatMap f)[k * sz + j]? = (f xs[k])[j]? := by
 induction xs generalizing k with
 | nil => simp at hk
 | cons x r ih =>
  rw [List.flatMap_cons]
  cases k with
  | zero => rw [Nat.zero_mul, Nat.zero_add, List.getElem?_append_left (by rw [hf]; exact hj)]; rfl
  | succ k =>
   have e : (k + 1) * sz + j = sz + (k * sz + j) := by rw [Nat.succ_mul]; omega
   rw [e, List.getElem?_append_right (by rw [hf]; omega), hf, Nat.add_sub_cancel_left, ih k (by simpa using hk)]
   rfl
theorem flat_length {α : Type} (f : α → List Value) (sz : Nat) (hf : ∀ x, (f x).length = sz) (xs : List α) : (xs.flatMap f).length = xs.length * sz := by
 induction xs with
 | nil => simp
 | cons x r ih => rw [List.flatMap_cons, List.length_append, hf, ih, List.length_cons, Nat.succ_mul]; omega
def sets (xs : List Value) (i : Nat) : List Value → List Value
 | [] => xs
 | v :: r => sets (xs.set i v) (i + 1) r
def IsRows {α : Type} (sz : Nat) (f : α → List Value) (w : World) (v : Value) (xs : List α) : Prop := ∃ A c, v = .slice A xs.length c ∧ xs.length ≤ c ∧ c ≤ maxLen ∧ Rd w sz A xs.length (xs.flatMap f)
theorem IsRows.below {α : Type} {sz : Nat} {f : α → List Value} {w w' : World} {v : Value} {xs : List α} (h : IsRows sz f w v xs) (hb : Below w.heap.size w w') : IsRows sz f w' v xs := by
 obtain ⟨A, c, e, h1, h2, h3⟩ := h
 exact ⟨A, c, e, h1, h2, h3.below hb⟩
theorem rd_flat {α : Type} {w : World} {A : Option Addr} {sz : Nat} {f : α → List Value} (hf : ∀ x, (f x).length = sz) {xs : List α} (rd : Rd w sz A xs.length (xs.flatMap f)) {k : Nat} (hk : k < xs.length) :
  ∃ b off, A = some ⟨b, off, none⟩ ∧ ∀ j u, j < sz → (f xs[k])[j]? = some u → w.cell? ⟨b, off + (k * sz + j), none⟩ = some u := by
 obtain ⟨b, off, e, hc⟩ := rd.2 (by omega)
 exact ⟨b, off, e, fun j u hj hu => hc _ _ (by rw [flat_get f sz hf xs k j hk hj]; exact hu)⟩
theorem own_cap' {w0 w : World} {e : TypeId} {sz n c : Nat} {A : Option Addr} {xs : List Value} (h : Own w0 w e sz (.slice A n c) n xs) : c ≤ maxLen := by
 rcases h.1.2 with ⟨h1, _⟩ | ⟨g, cap, cur, h1, _, _, _, hm, _⟩
 ·injection h1 with _ _ h2; subst h2; simp [maxLen]
 ·injection h1 with _ _ h2; subst h2; exact hm
theorem IsRows.of_own {α : Type} {sz : Nat} {f : α → List Value} {w0 w : World} {e : TypeId} {v : Value} {xs : List α} (h : Own w0 w e sz v xs.length (xs.flatMap f)) : IsRows sz f w v xs := by
 obtain ⟨A, c, rfl, hc⟩ := h.slice
 exact ⟨A, c, rfl, hc, own_cap' h, h.rd⟩
theorem list_of {α : Type} (n : Nat) (P : Nat → α → Prop) (h : ∀ i, i < n → ∃ x, P i x) : ∃ xs : List α, xs.length = n ∧ ∀ i (hi : i < xs.length), P i xs[i] := by
 induction n with
 | zero => exact ⟨[], rfl, fun i hi => absurd hi (by simp)⟩
 | succ n ih =>
  obtain ⟨xs, hl, hx⟩ := ih (fun i hi => h i (by omega))
  obtain ⟨x, hx'⟩ := h n (by omega)
  refine ⟨xs ++ [x], by simp [hl], fun i hi => ?_⟩
  by_cases e : i < xs.length
  ·rw [List.getElem_append_left e]; exact hx i e
  ·have e2 : i = n := by simp at hi; omega
   subst e2
   rw [List.getElem_append_right (by omega)]
   simpa [hl] using hx'
def IsRowsR {α : Type} (sz : Nat) (R : List Value → α → Prop) (w : World) (v : Value) (xs : List α) : Prop :=
 ∃ A c cs, v = .slice A xs.length c ∧ xs.length ≤ c ∧ c ≤ maxLen ∧ Rd w sz A xs.length cs ∧ ∀ k (h : k < xs.length), R ((cs.drop (k * sz)).take sz) xs[k]
theorem chunk_of (C : Nat → List Value) (sz n : Nat) (hC : ∀ i, i < n → (C i).length = sz) (k : Nat) (hk : k < n) : (((List.range n).flatMap C).drop (k * sz)).take sz = C k := by
 induction n with
 | zero => omega
 | succ n ih =>
  have hl : ∀ m, m ≤ n → ((List.range m).flatMap C).length = m * sz := by
   intro m
   induction m with
   | zero => intro _; simp
   | succ m ihm => intro hm; rw [List.range_succ, List.flatMap_append, List.length_append, ihm (by omega)]; simp [hC m (by omega)]; rw [Nat.succ_mul]
  rw [List.range_succ, List.flatMap_append]
  by_cases e : k < n
  ·have h1 : k * sz + sz ≤ n * sz := by rw [← Nat.succ_mul]; exact Nat.mul_le_mul_right _ e
   rw [List.drop_append_of_le_length (by rw [hl n (Nat.le_refl _)]; omega), List.take_append_of_le_length (by rw [List.length_drop, hl n (Nat.le_refl _)]; omega)]
   exact ih (fun i hi => hC i (by omega)) e
  ·have e2 : k = n := by omega
   subst e2
   rw [← hl k (Nat.le_refl _), List.drop_left]
   simp
   rw [← hC k (by omega)]; simp
theorem flat_range_length (C : Nat → List Value) (sz n : Nat) (hC : ∀ i, i < n → (C i).length = sz) : ((List.range n).flatMap C).length = n * sz := by
 induction n with
 | zero => simp
 | succ n ih => rw [List.range_succ, List.flatMap_append, List.length_append, ih (fun i hi => hC i (by omega))]; simp [hC n (by omega)]; rw [Nat.succ_mul]
theorem chunk_get {cs : List Value} {sz k r : Nat} (hr : r < sz) {l : List Value} (h : (cs.drop (k * sz)).take sz = l) : cs[k * sz + r]? = l[r]? := by
 subst h
 rw [List.getElem?_take, if_pos hr, List.getElem?_drop]
section
variable {H : Type} {enc : TypeId × Value → H} {P : Program} {w : World} {base : Nat} {spare : Nat → Bool} {held : Bool}
theorem open_cells {α : Type} {R : List Value → α → Prop} {t e : TypeId} {sz : Nat} (hsz : 0 < sz) (ht : P.underlying t = some (.slice e)) (hC : P.cellsOf e = sz) {fuel : Nat} {cs : List Value} {y : DataW H × List MemPlace}
  (h : DataW.trod enc P w base spare held fuel t cs = some y) (hel : ∀ n cs' y', n < fuel → DataW.trod enc P w base spare held n e cs' = some y' → ∃ x, R cs' x) : ∃ v xs, cs = [v] ∧ IsRowsR sz R w v xs := by
 rcases DataW.trod_slice ht h with ⟨rfl, _⟩ | ⟨a, len, cap, elems, rest, n, hn, rfl, _, hb, hl, hm, hlen, hi, _⟩
 ·exact ⟨_, ([] : List α), rfl, none, 0, [], rfl, Nat.le_refl _, by simp [maxLen], Rd.nil, fun k hk => absurd hk (by simp)⟩
 ·rw [hC] at hi
  have hone : ∀ i, i < len → ∃ c x, w.cells? base (a.add (i * sz)) sz = some c ∧ R c x := by
   intro i hil
   have := hi i hil
   rw [List.getElem?_eq_getElem (by omega)] at this
   obtain ⟨c, h1, h2⟩ := Option.bind_eq_some_iff.1 this
   obtain ⟨x, hx⟩ := hel n c _ (by omega) h2
   exact ⟨c, x, h1, hx⟩
  obtain ⟨xs, hxl, hxs⟩ := list_of len (fun i (x : α) => ∃ c, w.cells? base (a.add (i * sz)) sz = some c ∧ R c x) (fun i hil => by obtain ⟨c, x, h1, h2⟩ := hone i hil; exact ⟨x, c, h1, h2⟩)
  have hC' : ∀ i, i < len → ((w.cells? base (a.add (i * sz)) sz).getD []).length = sz := by
   intro i hil
   obtain ⟨c, _, h1, _⟩ := hone i hil
   rw [h1]
   exact (World.cells?_some h1).2.1
  subst hxl
  refine ⟨_, xs, rfl, some a, cap, (List.range xs.length).flatMap (fun i => (w.cells? base (a.add (i * sz)) sz).getD []), rfl, hl, hm, ⟨flat_range_length _ sz _ hC', fun hn0 => ?_⟩, fun k hk => ?_⟩
  ·obtain ⟨c0, _, h1, _⟩ := hone 0 hn0
   obtain ⟨_, hc0l, hcell0⟩ := World.cells?_some h1
   obtain ⟨b, off, spot⟩ := a
   have h00 := hcell0 0 hsz
   rw [List.getElem?_eq_getElem (by omega)] at h00
   have hspot : spot = none := by simpa [Addr.add] using World.cell?_spot h00
   subst hspot
   refine ⟨b, off, rfl, fun j u hu => ?_⟩
   have hj : j < xs.length * sz := by
    rcases Nat.lt_or_ge j (xs.length * sz) with h | h
    ·exact h
    ·rw [List.getElem?_eq_none (by rw [flat_range_length _ sz _ hC']; exact h)] at hu; cases hu
   have e : j = (j / sz) * sz + j % sz := by rw [Nat.mul_comm]; exact (Nat.div_add_mod j sz).symm
   have hk : j / sz < xs.length := Nat.div_lt_of_lt_mul (by rw [Nat.mul_comm]; exact hj)
   have hr : j % sz < sz := Nat.mod_lt _ hsz
   rw [e, chunk_get hr (chunk_of _ sz _ hC' _ hk)] at hu
   obtain ⟨c, _, h2, _⟩ := hone _ hk
   rw [h2] at hu
   obtain ⟨_, _, hcell⟩ := World.cells?_some h2
   have := hcell _ hr
   rw [Option.getD_some] at hu
   rw [hu, Addr.add_lit, Addr.add_lit] at this
   rw [e, ← Nat.add_assoc]
   exact this
  ·obtain ⟨c, h1, h2⟩ := hxs k hk
   rw [chunk_of _ sz _ hC' k hk, h1]
   exact h2
end
theorem cell_keep {W w1 : World} {p : Addr} {v : Value} (hb : Below W.heap.size W w1) (h : W.cell? p = some v) : w1.cell? p = some v := (hb.cell (cell_lt h)).trans h
theorem IsRowsR.rows {α : Type} {sz : Nat} {f : α → List Value} {G : α → Prop} {w : World} {v : Value} {xs : List α} (h : IsRowsR sz (fun cs x => cs = f x ∧ G x) w v xs) : IsRows sz f w v xs ∧ ∀ x ∈ xs, G x := by
 obtain ⟨A, c, cs, rfl, h1, h2, rd, hx⟩ := h
 refine ⟨⟨A, c, rfl, h1, h2, ?_⟩, fun x hxm => ?_⟩
 ·have e : cs = xs.flatMap f := by
   have hl := rd.1
   clear rd h1 h2
   induction xs generalizing cs with
   | nil => simpa using hl
   | cons x r ih =>
    have h0 := (hx 0 (by simp)).1
    rw [Nat.zero_mul, List.drop_zero] at h0
    have e1 : cs = cs.take sz ++ cs.drop sz := (List.take_append_drop sz cs).symm
    rw [List.flatMap_cons, e1, h0]
    have hr : cs.drop sz = r.flatMap f := by
     apply ih
     ·intro k hk
      have := hx (k + 1) (by simpa using hk)
      rw [List.drop_drop, show sz + k * sz = (k + 1) * sz from by rw [Nat.succ_mul]; omega]
      exact this
     ·rw [List.length_drop, hl, List.length_cons, Nat.succ_mul]; omega
    rw [hr]
    rfl
  rw [← e]; exact rd
 ·obtain ⟨k, hk, rfl⟩ := List.getElem_of_mem hxm
  exact (hx k hk).2
structure Keep (S : Nat → Prop) (w w' : World) : Prop where
 os : w'.os = w.os
 tape : w'.tape = w.tape
 output : w'.output = w.output
 size : w.heap.size ≤ w'.heap.size
 block : ∀ k, k < w.heap.size → S k → w'.heap[k]? = w.heap[k]?
theorem Keep.refl (S : Nat → Prop) (w : World) : Keep S w w := ⟨rfl, rfl, rfl, Nat.le_refl _, fun _ _ _ => rfl⟩
theorem Keep.trans {S S' : Nat → Prop} {a b c : World} (h : Keep S a b) (k : Keep S' b c) (hs : ∀ i, i < a.heap.size → S i → S' i) : Keep S a c :=
 ⟨k.os.trans h.os, k.tape.trans h.tape, k.output.trans h.output, Nat.le_trans h.size k.size, fun i hi hS => (k.block i (Nat.lt_of_lt_of_le hi h.size) (hs i hi hS)).trans (h.block i hi hS)⟩
theorem Keep.of_below {S : Nat → Prop} {w w' : World} (h : Below w.heap.size w w') : Keep S w w' := ⟨h.os, h.tape, h.output, h.size, fun k hk _ => h.block k hk⟩
theorem Keep.below {S : Nat → Prop} {w w' : World} {n : Nat} (h : Keep S w w') (hn : n ≤ w.heap.size) (hs : ∀ b, b < n → S b) : Below n w w' := ⟨h.os, h.tape, h.output, h.size, fun k hk => h.block k (by omega) (hs k hk)⟩
theorem Keep.cell {S : Nat → Prop} {w w' : World} (h : Keep S w w') {p : Addr} (hp : p.block < w.heap.size) (hS : S p.block) : w'.cell? p = w.cell? p := World.cell?_of_block (w := w) (h.block p.block hp hS)
theorem Keep.cellEq {S : Nat → Prop} {w w' : World} (h : Keep S w w') {p : Addr} {v : Value} (hS : S p.block) (hv : w.cell? p = some v) : w'.cell? p = some v := (h.cell (cell_lt hv) hS).trans hv
theorem Keep.setCell {S : Nat → Prop} {w w' : World} {p : Addr} (h : Keep S w w') (hp : ¬ S p.block) (u : Value) : Keep S w (w'.setCell p u) :=
 ⟨h.os, h.tape, h.output, by simpa using h.size, fun k hk hS => (Below.heap_setCell w' p u k (fun e => hp (by rw [← e]; exact hS))).trans (h.block k hk hS)⟩
theorem Keep.alloc {S : Nat → Prop} {w w' : World} (h : Keep S w w') (o : Obj) : Keep S w (w'.alloc o) := h.trans (Keep.of_below (S := S) (Below.alloc (Below.refl _ _) (Nat.le_refl _) _)) (fun _ _ h => h)
theorem heap_alloc_lt {w : World} {o : Obj} {k : Nat} (h : k < w.heap.size) : (w.alloc o).heap[k]? = w.heap[k]? := (Below.alloc (Below.refl w.heap.size w) (Nat.le_refl _) o).block k h
def Sane (t : TypeId) (w : World) : Nat → Prop := fun k => ∀ cur, w.heap[k]? ≠ some (.cells cur t (0, 0))
abbrev KeepT (t : TypeId) (w w' : World) : Prop := Keep (Sane t w) w w'
theorem KeepT.trans' {t : TypeId} {a b c : World} (h : KeepT t a b) (k : KeepT t b c) : KeepT t a c := Keep.trans h k (fun i hi hS cur e => hS cur ((h.block i hi hS).symm.trans e))
theorem KeepT.refl' (t : TypeId) (w : World) : KeepT t w w := Keep.refl _ _
theorem KeepT.of_below' {t : TypeId} {w w' : World} (h : Below w.heap.size w w') : KeepT t w w' := Keep.of_below h
theorem KeepT.cellT {t : TypeId} {w w' : World} (h : KeepT t w w') {p : Addr} {v : Value} (hS : Sane t w p.block) (hv : w.cell? p = some v) : w'.cell? p = some v := h.cellEq hS hv
theorem sane_of {t t' : TypeId} {w : World} {k : Nat} {cur : Array Value} {fr : Nat × Nat} (h : w.heap[k]? = some (.cells cur t' fr)) (hne : t' ≠ t) : Sane t w k := fun cur' e => by
 rw [h] at e
 injection e with e
 injection e with _ e
 exact hne e
theorem sane_new {t t' : TypeId} {w : World} {cs : Array Value} (hne : t' ≠ t) : Sane t (w.alloc (.cells cs t')) w.heap.size := sane_of (heap_alloc_new _ _) hne
theorem sane_below {t : TypeId} {w w' : World} {k : Nat} (h : Sane t w k) (hk : k < w.heap.size) (hb : Below w.heap.size w w') : Sane t w' k := fun cur e => h cur ((hb.block k hk).symm.trans e)
theorem sane_keep {t : TypeId} {w w' : World} {k : Nat} (h : Sane t w k) (hk : k < w.heap.size) (hb : KeepT t w w') : Sane t w' k := fun cur e => h cur ((hb.block k hk h).symm.trans e)
theorem wpList_app_keep {P : Program} {w0 w : World} {ops : Array Oper} {rest : List Oper} {o : Oper} {a : Act} {Q : Exit → Act → World → Prop} (hgd : o.guard = none) (s x : Operand) (t : TypeId)
  (ho : o.op = .call { callee := .builtin .append, args := #[s, x], argTypes := #[t, t] }) {e : TypeId} {sz bt : Nat} (T : ElemT P t e sz bt) {v : Value} {n : Nat} {xs : List Value} (own : Own w0 w e sz v n xs)
  (cs : Array Value) (m : Nat) (hs : a.eval s = v) (hx : a.eval x = .slice (some ⟨w.heap.size, 0, none⟩) m m) (hl : cs.size = m * sz) (h1 : ∀ u ∈ cs.toList, u.oneCell' = true) (h63 : n + m ≤ maxLen) (hb : (n + m) * bt ≤ 140737488355328)
  (h : ∀ v' w', Own w0 w' e sz v' (n + m) (xs ++ cs.toList) → KeepT e w w' → wpList P ops Q rest (a.put o.dst v') w') : wpList P ops Q (o :: rest) a (w.alloc (.cells cs e)) := by
 refine wpList_plain hgd fun K hK => ?_
 obtain ⟨i, z, hi, hz, hs', hbt, hzs⟩ := T.info
 have rd := Rd.new w sz m cs e hl
 have hcells : ∀ j u, cs.toList[j]? = some u → (w.alloc (.cells cs e)).cell? ((⟨w.heap.size, 0, none⟩ : Addr).add j) = some u := by
  intro j u hu
  rw [Addr.add_lit, Nat.zero_add, World.cell?_alloc_new]
  simpa using hu
 have own' := own.alloc (.cells cs e)
 obtain ⟨v', w', hr, h2, h3, _⟩ := run_append_own (P := P) (w.alloc (.cells cs e)) w0.heap.size t o.type e i z sz bt T.under hi hz hs' hbt hzs T.pos v n xs own'.1 ⟨w.heap.size, 0, none⟩ m m cs.toList (by simpa using hl) hcells h1 h63 hb own'.2.size
 unfold Oper.wp execOp
 simp only [ho, resolve, invoke, builtin, Sem.run_bind, Sem.run_pure, Result.andThen_ok, List.map_toArray, List.map_cons, List.map_nil, hs, hx, hr]
 refine hK _ _ (h v' w' (own'.grown h2 h3) ?_)
 obtain ⟨q1, q2, q3, q4, q5⟩ := h3
 refine ⟨q1, q2, q3, by simp at q4; omega, fun k hk hS => ?_⟩
 rw [q5 k (by simp; omega) ?_, heap_alloc_lt hk]
 intro e1
 rcases own.1.2 with ⟨rfl, _⟩ | ⟨g, cap, cur, rfl, _, hg, _⟩
 ·cases e1
 ·injection e1 with e1
  subst e1
  exact hS cur hg
theorem wpList_app_keepG {P : Program} {w0 w : World} {ops : Array Oper} {rest : List Oper} {o : Oper} {a : Act} {Q : Exit → Act → World → Prop} (g : Nat) (hg : g = w.heap.size) (hgd : o.guard = none) (s x : Operand) (t : TypeId)
  (ho : o.op = .call { callee := .builtin .append, args := #[s, x], argTypes := #[t, t] }) {e : TypeId} {sz bt : Nat} (T : ElemT P t e sz bt) {v : Value} {n : Nat} {xs : List Value} (own : Own w0 w e sz v n xs)
  (cs : Array Value) (m : Nat) (hs : a.eval s = v) (hx : a.eval x = .slice (some ⟨g, 0, none⟩) m m) (hl : cs.size = m * sz) (h1 : ∀ u ∈ cs.toList, u.oneCell' = true) (h63 : n + m ≤ maxLen) (hb : (n + m) * bt ≤ 140737488355328)
  (h : ∀ v' w', Own w0 w' e sz v' (n + m) (xs ++ cs.toList) → KeepT e w w' → wpList P ops Q rest (a.put o.dst v') w') : wpList P ops Q (o :: rest) a (w.alloc (.cells cs e)) := by
 subst hg
 exact wpList_app_keep hgd s x t ho T own cs m hs hx hl h1 h63 hb h
structure Grew (v v' : Value) (w w' : World) : Prop where
 keep : Keep (fun i => v.ownBlock ≠ some i) w w'
 lies : v'.ownBlock = v.ownBlock ∨ ∃ g, v'.ownBlock = some g ∧ w.heap.size ≤ g
theorem Grew.refl (v : Value) (w : World) : Grew v v w w := ⟨Keep.refl _ _, .inl rfl⟩
theorem Grew.of_below {v : Value} {w w' : World} (h : Below w.heap.size w w') : Grew v v w w' := ⟨Keep.of_below h, .inl rfl⟩
theorem Grew.trans {u v x : Value} {a b c : World} (h : Grew u v a b) (k : Grew v x b c) : Grew u x a c := by
 refine ⟨h.keep.trans k.keep (fun i hi hu e => ?_), ?_⟩
 ·rcases h.lies with h1 | ⟨g, h1, h2⟩
  ·exact hu (h1.symm.trans e)
  ·rw [h1] at e; injection e with e; omega
 ·rcases k.lies with k1 | ⟨g, k1, k2⟩
  ·rw [k1]; exact h.lies
  ·exact .inr ⟨g, k1, Nat.le_trans h.keep.size k2⟩
theorem Keep.mono {S S' : Nat → Prop} {w w' : World} (h : Keep S w w') (hs : ∀ i, i < w.heap.size → S' i → S i) : Keep S' w w' := ⟨h.os, h.tape, h.output, h.size, fun k hk hS => h.block k hk (hs k hk hS)⟩
theorem Own.neT {w0 w : World} {e : TypeId} {sz n b : Nat} {v : Value} {xs : List Value} (h : Own w0 w e sz v n xs) (hb : Sane e w b) : v.ownBlock ≠ some b := by
 intro e
 rcases h.1.2 with ⟨rfl, _⟩ | ⟨g, cap, cur, rfl, _, hg, _⟩
 ·cases e
 ·injection e with e
  subst e
  exact hb cur hg
theorem Grew.keepT {w0 w w' : World} {e : TypeId} {sz n : Nat} {v v' : Value} {xs : List Value} (h : Grew v v' w w') (own : Own w0 w e sz v n xs) : KeepT e w w' := h.keep.mono fun _ _ hS => own.neT hS
section
variable {P : Program} {w0 w : World}
theorem run_appG (t ty e : TypeId) (sz bt : Nat) (T : ElemT P t e sz bt) (v : Value) (n : Nat) (xs : List Value) (own : Own w0 w e sz v n xs)
  (A : Option Addr) (m c : Nat) (news : List Value) (rd : Rd w sz A m news) (h1 : ∀ u ∈ news, u.oneCell' = true) (h63 : n + m ≤ maxLen) (hb : (n + m) * bt ≤ 140737488355328) :
  ∃ v' w', (Builtin.append_ #[t, t] ty #[v, .slice A m c]).run P w = .ok v' w' ∧ Own w0 w' e sz v' (n + m) (xs ++ news) ∧ Grew v v' w w' := by
 obtain ⟨i, z, hi, hz, hs, hbt, hzs⟩ := T.info
 rcases A with _ | ad
 ·have hm : m = 0 := by
   rcases Nat.eq_zero_or_pos m with h | h
   ·exact h
   ·obtain ⟨b, off, e, _⟩ := rd.2 h; cases e
  subst hm
  have hn : news = [] := List.eq_nil_of_length_eq_zero (by simpa using rd.1)
  subst hn
  refine ⟨v, w, ?_, by simpa using own, Grew.refl _ _⟩
  rcases own.1.2 with ⟨rfl, rfl⟩ | ⟨g, cap, cur, rfl, _, _, hnc, _⟩
  ·simp [Builtin.append_, run_underlying T.under, sizeOf, typeInfo, hi, Builtin.lenOf, Builtin.firstCells]
  ·simp [Builtin.append_, run_underlying T.under, sizeOf, typeInfo, hi, Builtin.lenOf, Builtin.firstCells, hnc, storeCells]
 ·have hcells : ∀ j u, news[j]? = some u → w.cell? (ad.add j) = some u := by
   intro j u hu
   rcases Nat.eq_zero_or_pos m with h0 | h0
   ·subst h0
    have hn : news = [] := List.eq_nil_of_length_eq_zero (by simpa using rd.1)
    subst hn
    simp at hu
   ·obtain ⟨b, off, h, hc⟩ := rd.2 h0
    injection h with h
    subst h
    rw [Addr.add_lit]
    exact hc j u hu
  obtain ⟨v', w', hr, h2, h3, _, h5⟩ := run_append_own_at (P := P) w w0.heap.size t ty e i z sz bt T.under hi hz hs hbt hzs T.pos v n xs own.1 ad m c news rd.1 hcells h1 h63 hb own.2.size
  refine ⟨v', w', hr, own.grown h2 h3, ⟨h3.os, h3.tape, h3.output, h3.size, fun k hk hne => h3.block k hk (fun e => hne e.symm)⟩, ?_⟩
  rcases h5 with h5 | h5
  ·exact .inl h5
  ·exact .inr ⟨_, h5, Nat.le_refl _⟩
theorem wp_appG {o : Oper} {a : Act} {K : Act → World → Prop} {Q : Exit → Act → World → Prop} (s x : Operand) (t : TypeId)
  (ho : o.op = .call { callee := .builtin .append, args := #[s, x], argTypes := #[t, t] }) {e : TypeId} {sz bt : Nat} (T : ElemT P t e sz bt) {v : Value} {n : Nat} {xs : List Value} (hs : a.eval s = v) (own : Own w0 w e sz v n xs)
  (A : Option Addr) (m c : Nat) (news : List Value) (hx : a.eval x = .slice A m c) (rd : Rd w sz A m news) (h1 : ∀ u ∈ news, u.oneCell' = true) (h63 : n + m ≤ maxLen) (hb : (n + m) * bt ≤ 140737488355328)
  (h : ∀ v' w', Own w0 w' e sz v' (n + m) (xs ++ news) → Grew v v' w w' → K (a.put o.dst v') w') : o.wp P a w K Q := by
 obtain ⟨v', w', hr, h2, h3⟩ := run_appG (P := P) t o.type e sz bt T v n xs own A m c news rd h1 h63 hb
 unfold Oper.wp execOp
 simp only [ho, resolve, invoke, builtin, Sem.run_bind, Sem.run_pure, Result.andThen_ok, List.map_toArray, List.map_cons, List.map_nil, hs, hx, hr]
 exact h v' w' h2 h3
theorem wpList_appG {ops : Array Oper} {rest : List Oper} {o : Oper} {a : Act} {Q : Exit → Act → World → Prop} (hgd : o.guard = none) (s x : Operand) (t : TypeId)
  (ho : o.op = .call { callee := .builtin .append, args := #[s, x], argTypes := #[t, t] }) {e : TypeId} {sz bt : Nat} (T : ElemT P t e sz bt) {v : Value} {n : Nat} {xs : List Value} (hs : a.eval s = v) (own : Own w0 w e sz v n xs)
  (A : Option Addr) (m c : Nat) (news : List Value) (hx : a.eval x = .slice A m c) (rd : Rd w sz A m news) (h1 : ∀ u ∈ news, u.oneCell' = true) (h63 : n + m ≤ maxLen) (hb : (n + m) * bt ≤ 140737488355328)
  (h : ∀ v' w', Own w0 w' e sz v' (n + m) (xs ++ news) → Grew v v' w w' → wpList P ops Q rest (a.put o.dst v') w') : wpList P ops Q (o :: rest) a w :=
 wpList_plain hgd fun _ hK => wp_appG s x t ho T hs own A m c news hx rd h1 h63 hb fun v' w' h2 h3 => hK _ _ (h v' w' h2 h3)
theorem wpList_appG_new {ops : Array Oper} {rest : List Oper} {o : Oper} {a : Act} {Q : Exit → Act → World → Prop} (g : Nat) (hg : g = w.heap.size) (hgd : o.guard = none) (s x : Operand) (t : TypeId)
  (ho : o.op = .call { callee := .builtin .append, args := #[s, x], argTypes := #[t, t] }) {e : TypeId} {sz bt : Nat} (T : ElemT P t e sz bt) {v : Value} {n : Nat} {xs : List Value} (own : Own w0 w e sz v n xs)
  (cs : Array Value) (m : Nat) (hs : a.eval s = v) (hx : a.eval x = .slice (some ⟨g, 0, none⟩) m m) (hl : cs.size = m * sz) (h1 : ∀ u ∈ cs.toList, u.oneCell' = true) (h63 : n + m ≤ maxLen) (hb : (n + m) * bt ≤ 140737488355328)
  (h : ∀ v' w', Own w0 w' e sz v' (n + m) (xs ++ cs.toList) → Grew v v' w w' → wpList P ops Q rest (a.put o.dst v') w') : wpList P ops Q (o :: rest) a (w.alloc (.cells cs e)) := by
 subst hg
 exact wpList_appG hgd s x t ho T hs (own.alloc _) _ m m cs.toList hx (Rd.new w sz m cs e hl) h1 h63 hb fun v' w' h2 h3 =>
  h v' w' h2 ((Grew.of_below (Below.alloc (Below.refl _ _) (Nat.le_refl _) _)).trans h3)
end
def cutX (base : Nat) (w : World) : World := { w with heap := w.heap.extract 0 base }
theorem cutX_size {base : Nat} {w : World} (h : base ≤ w.heap.size) : (cutX base w).heap.size = base := by simp [cutX]; omega
theorem cutX_below {base : Nat} {w : World} (h : base ≤ w.heap.size) : Below (cutX base w).heap.size (cutX base w) w := by
 refine ⟨rfl, rfl, rfl, ?_, fun k hk => ?_⟩
 ·rw [cutX_size h]; exact h
 ·rw [cutX_size h] at hk
  simp [cutX, Array.getElem?_extract]; omega
def OwnX (base : Nat) (w : World) (e : TypeId) (sz : Nat) (v : Value) (n : Nat) (xs : List Value) : Prop := w.ownsRow base e sz v n xs ∧ base ≤ w.heap.size
theorem OwnX.own {base : Nat} {w : World} {e : TypeId} {sz n : Nat} {v : Value} {xs : List Value} (h : OwnX base w e sz v n xs) : Own (cutX base w) w e sz v n xs := ⟨by rw [cutX_size h.2]; exact h.1, cutX_below h.2⟩
theorem OwnX.of {base : Nat} {w w' : World} {e : TypeId} {sz n : Nat} {v : Value} {xs : List Value} (hb : base ≤ w.heap.size) (h : Own (cutX base w) w' e sz v n xs) : OwnX base w' e sz v n xs := by
 have h1 := h.1
 have h2 := h.2.size
 rw [cutX_size hb] at h1 h2
 exact ⟨h1, h2⟩
theorem OwnX.of_own {w0 w : World} {e : TypeId} {sz n : Nat} {v : Value} {xs : List Value} (h : Own w0 w e sz v n xs) : OwnX w0.heap.size w e sz v n xs := ⟨h.1, h.2.size⟩
theorem OwnX.keep {base : Nat} {w w' : World} {e : TypeId} {sz n : Nat} {v : Value} {xs : List Value} {S : Nat → Prop} (h : OwnX base w e sz v n xs) (hk : Keep S w w') (hv : ∀ b, v.ownBlock = some b → S b) : OwnX base w' e sz v n xs := by
 refine ⟨⟨h.1.1, ?_⟩, Nat.le_trans h.2 hk.size⟩
 rcases h.1.2 with h' | ⟨g, cap, cur, rfl, hg, hh, r⟩
 ·exact .inl h'
 ·exact .inr ⟨g, cap, cur, rfl, hg, (hk.block g (lt_of_block hh) (hv g rfl)).trans hh, r⟩
theorem OwnX.lt {base : Nat} {w : World} {e : TypeId} {sz n : Nat} {v : Value} {xs : List Value} (h : OwnX base w e sz v n xs) : ∀ b, v.ownBlock = some b → base ≤ b ∧ b < w.heap.size := fun b hb => h.1.lt b hb
theorem OwnX.neT {base : Nat} {w : World} {e : TypeId} {sz n b : Nat} {v : Value} {xs : List Value} (h : OwnX base w e sz v n xs) (hb : Sane e w b) : v.ownBlock ≠ some b := Own.neT h.own hb
theorem OwnX.sane {base : Nat} {w : World} {e t : TypeId} {sz n : Nat} {v : Value} {xs : List Value} (h : OwnX base w e sz v n xs) (ht : e ≠ t) : ∀ b, v.ownBlock = some b → Sane t w b := by
 intro b hb
 rcases h.1.2 with ⟨rfl, _⟩ | ⟨g, cap, cur, rfl, _, hg, _⟩
 ·cases hb
 ·injection hb with hb
  subst hb
  exact sane_of hg ht
theorem OwnX.setO {base : Nat} {w : World} {e : TypeId} {sz n b o : Nat} {v : Value} {xs : List Value} (h : OwnX base w e sz v n xs) (hb : v.ownBlock ≠ some b) (u : Value) : OwnX base (w.setCell ⟨b, o, none⟩ u) e sz v n xs :=
 ⟨ownsRow_setCell_other h.1 (a := ⟨b, o, none⟩) hb u, by simpa using h.2⟩
theorem OwnX.alloc {base : Nat} {w : World} {e : TypeId} {sz n : Nat} {v : Value} {xs : List Value} (h : OwnX base w e sz v n xs) (o : Obj) : OwnX base (w.alloc o) e sz v n xs := ⟨h.1.alloc o, by have := h.2; simp; omega⟩
end Go.Proofs.YtnmblfonmfjoeaaGreatDoor
