/- Several texts in one: GrwSt, RdSt1. -/
import Derived.Test.YtdanlgmpgdipnaaDoorKd26
import Derived.Test.YtdanlgmpgdipnaaDoorKd11
import Derived.Test.YtdanlgmpgdipnaaDoorKd18
import Derived.Test.YtdanlgmpgdipnaaDoorKd24
namespace Go.Proofs.YtdanlgmpgdipnaaDoor
open Go.RowKit
set_option linter.unusedVariables false


/-- v is a row of statements in blocks from base on, each one's memory apart -/
def GrwO (base : Nat) (w : World) (v : Value) (l : List St) : Prop :=
  ∃ (xs : List V8) (G : Nat → Nat → Prop), xs.length = l.length ∧ OwnX base w 67 8 v l.length (xs.flatMap V8.cells) ∧ (∀ i b, i < l.length → G i b → base ≤ b ∧ b < w.heap.size ∧ v.ownBlock ≠ some b) ∧ (∀ i j b, i < l.length → j < l.length → i ≠ j → G i b → G j b → False) ∧ ∀ i (h : i < l.length) (h' : i < xs.length), StO w (G i) xs[i] l[i]
theorem GrwO.slice {base : Nat} {w : World} {v : Value} {l : List St} (h : GrwO base w v l) : ∃ A c, v = .slice A l.length c ∧ l.length ≤ c ∧ c ≤ maxLen := by
  obtain ⟨xs, G, hl, ow, _⟩ := h
  obtain ⟨A, c, rfl, hc⟩ := own_slice ow.1
  exact ⟨A, c, rfl, hc, own_cap' ow.own⟩
theorem GrwO.nil {base : Nat} {w : World} (hb : base ≤ w.heap.size) : GrwO base w (.slice none 0 0) [] :=
  ⟨[], fun _ _ => False, rfl, ⟨World.ownsRow_nil _ _ _ _, hb⟩, fun i b h => absurd h (by simp), fun i j b h => absurd h (by simp), fun i h => absurd h (by simp)⟩
theorem GrwO.empty {base : Nat} {w : World} (hb : base ≤ w.heap.size) : GrwO base (w.alloc (.cells #[] 67)) (.slice (some ⟨w.heap.size, 0, none⟩) 0 0) [] :=
  ⟨[], fun _ _ => False, rfl, ⟨World.ownsRow_lit w #[] 0 hb (by simp [maxLen]) rfl, by simp; omega⟩, fun i b h => absurd h (by simp), fun i j b h => absurd h (by simp), fun i h => absurd h (by simp)⟩
theorem GrwO.keep {base : Nat} {w w' : World} {v : Value} {l : List St} {S : Nat → Prop} (h : GrwO base w v l) (hk : Keep S w w') (hS : ∀ b, base ≤ b → b < w.heap.size → S b) : GrwO base w' v l := by
  obtain ⟨xs, G, hl, ow, hG, hd, hx⟩ := h
  refine ⟨xs, G, hl, ow.keep hk (fun b hb => hS b (ow.lt b hb).1 (ow.lt b hb).2), fun i b hi hb => ?_, hd, fun i hi hi' => (hx i hi hi').keep fun b hb => ?_⟩
  · have := hG i b hi hb
    exact ⟨this.1, Nat.lt_of_lt_of_le this.2.1 hk.size, this.2.2⟩
  · have := hG i b hi hb
    exact hk.block b this.2.1 (hS b this.1 this.2.1)
theorem GrwO.below {base : Nat} {w w' : World} {v : Value} {l : List St} (h : GrwO base w v l) (hb : Below w.heap.size w w') : GrwO base w' v l := h.keep (Keep.of_below (S := fun _ => True) hb) (fun _ _ _ => trivial)
/-- one more, whose memory was made since -/
theorem grw_app {base : Nat} {w0 w1 w2 : World} {v v' : Value} {l : List St} {xs : List V8} {G : Nat → Nat → Prop} {x : V8} {g : St} {S : Nat → Prop}
    (hl : xs.length = l.length) (ow : OwnX base w0 67 8 v l.length (xs.flatMap V8.cells)) (hG : ∀ i b, i < l.length → G i b → base ≤ b ∧ b < w0.heap.size ∧ v.ownBlock ≠ some b) (hd : ∀ i j b, i < l.length → j < l.length → i ≠ j → G i b → G j b → False) (hx : ∀ i (h : i < l.length) (h' : i < xs.length), StO w0 (G i) xs[i] l[i])
    (hk : Keep S w0 w1) (hS : ∀ b, base ≤ b → b < w0.heap.size → S b) (ht : StO w1 (Made w0 w1) x g) (own3 : Own (cutX base w1) w2 67 8 v' (l.length + 1) (xs.flatMap V8.cells ++ x.cells)) (gr : Grew v v' w1 w2) : GrwO base w2 v' (l ++ [g]) := by
  have h01 := hk.size
  have h12 := gr.keep.size
  have hb0 := ow.2
  have hlt := ow.lt
  have key : ∀ b, b < w1.heap.size → v.ownBlock ≠ some b → v'.ownBlock ≠ some b := by
    intro b hb hv e
    rcases gr.lies with h1 | ⟨q, h1, h2⟩
    · exact hv (h1 ▸ e)
    · rw [h1] at e; injection e with e; omega
  have hn : ∀ b, w0.heap.size ≤ b → v.ownBlock ≠ some b := fun b hb e => by have := hlt b e; omega
  have hlen : (l ++ [g]).length = l.length + 1 := by simp
  refine ⟨xs ++ [x], fun i b => if i < l.length then G i b else Made w0 w1 b, by simp [hl], ?_, fun i b hi hb => ?_, fun i j b hi hj hne h1 h2 => ?_, fun i hi hi' => ?_⟩
  · rw [hlen, List.flatMap_append]
    have e1 : [x].flatMap V8.cells = x.cells := by simp
    rw [e1]
    exact OwnX.of (by omega) own3
  · by_cases e : i < l.length
    · simp only [e, if_true] at hb
      have := hG i b e hb
      exact ⟨this.1, by omega, key b (by omega) this.2.2⟩
    · simp only [e, if_false] at hb
      have h1 := hb.1
      have h2 := hb.2
      exact ⟨by omega, by omega, key b h2 (hn b h1)⟩
  · rw [hlen] at hi hj
    by_cases e : i < l.length
    · by_cases e' : j < l.length
      · simp only [e, e', if_true] at h1 h2; exact hd i j b e e' hne h1 h2
      · simp only [e, e', if_true, if_false] at h1 h2; have := hG i b e h1; have := h2.1; omega
    · by_cases e' : j < l.length
      · simp only [e, e', if_true, if_false] at h1 h2; have := hG j b e' h2; have := h1.1; omega
      · omega
  · rw [hlen] at hi
    by_cases e : i < l.length
    · have e2 : i < xs.length := by omega
      simp only [e, if_true]
      rw [List.getElem_append_left e2, List.getElem_append_left e]
      have hb := fun b hb => hG i b e hb
      exact ((hx i e e2).keep fun b q => hk.block b (hb b q).2.1 (hS b (hb b q).1 (hb b q).2.1)).keep fun b q => gr.keep.block b (by have := (hb b q).2.1; omega) (hb b q).2.2
    · have e2 : i = l.length := by omega
      subst e2
      simp only [Nat.lt_irrefl, if_false]
      have e3 : (xs ++ [x])[l.length] = x := by simp [← hl]
      have e4 : (l ++ [g])[l.length] = g := by simp
      rw [e3, e4]
      exact ht.keep fun b q => gr.keep.block b q.2 (hn b q.1)
theorem GrwO.row {w0 w : World} {A : Option Addr} {c : Nat} {l : List St} (h : GrwO w0.heap.size w (.slice A l.length c) l) : StRowO w (Made w0 w) A l := by
  obtain ⟨xs, G, hl, ow, hG, hd, hx⟩ := h
  refine stRowO_of (xs := xs) (G := G) hl ⟨ow.own.rd, fun hn => ?_, fun i b hi hb => ⟨(hG i b hi hb).1, (hG i b hi hb).2.1⟩, hd⟩ hx
  rcases ow.1.2 with ⟨h, _⟩ | ⟨g, cap, cur, h, hb, hg, _⟩
  · injection h with _ h2; omega
  · injection h with h1 h2
    subst h1
    exact ⟨g, 0, cur, _, rfl, ⟨hb, lt_of_block hg⟩, hg, fun i hi hb => (hG i g hi hb).2.2 rfl⟩

abbrev KeepM (rb mb : Nat) (w w' : World) : Prop := Keep (fun b => b ≠ rb ∧ b ≠ mb) w w'
theorem KeepM.trans' {rb mb : Nat} {u v x : World} (h : KeepM rb mb u v) (k : KeepM rb mb v x) : KeepM rb mb u x := Keep.trans h k (fun _ _ h => h)
theorem KeepM.of_r {rb mb : Nat} {w w' : World} (h : KeepR rb w w') : KeepM rb mb w w' := h.mono (fun _ _ h => h.1)
theorem KeepM.of_below {rb mb : Nat} {w w' : World} (h : Below w.heap.size w w') : KeepM rb mb w w' := Keep.of_below h
theorem KeepM.base {W0 w w' : World} {rb mb : Nat} (h : KeepM rb mb w w') (hb : Below W0.heap.size W0 w) (hr : W0.heap.size ≤ rb) (hm : W0.heap.size ≤ mb) : Below W0.heap.size W0 w' :=
  hb.trans (h.below hb.size (fun b hlt => ⟨by omega, by omega⟩))
def ManyAt (w : World) (mb m : Nat) : Prop := w.heap[mb]? = some (.cells #[.int .i64 (m : Int)] 3 (0, 0))
theorem ManyAt.keepR {w w' : World} {rb mb m : Nat} (h : ManyAt w mb m) (hk : KeepR rb w w') (hne : mb ≠ rb) : ManyAt w' mb m := (hk.block mb (lt_of_block h) hne).trans h
theorem ManyAt.below {w w' : World} {mb m : Nat} (h : ManyAt w mb m) (hk : Below w.heap.size w w') : ManyAt w' mb m := (hk.block mb (lt_of_block h)).trans h
theorem ManyAt.set {w : World} {mb m g o : Nat} (h : ManyAt w mb m) (hg : g ≠ mb) (v : Value) : ManyAt (w.setCell ⟨g, o, none⟩ v) mb m := (Below.heap_setCell w ⟨g, o, none⟩ v mb (fun e => hg e.symm)).trans h
theorem ManyAt.inc {w : World} {mb m : Nat} (h : ManyAt w mb m) : ManyAt (w.setCell ⟨mb, 0, none⟩ (.int .i64 ((m : Int) + 1))) mb (m + 1) := by
  unfold ManyAt at *
  have e : ((m + 1 : Nat) : Int) = (m : Int) + 1 := by omega
  rw [e]
  simp [World.setCell, Array.getElem?_modify, h]
/-- where the reader stands, and what lies where -/
structure EnvR (W0 w : World) (rb mb : Nat) (A : Option Addr) (c n i : Nat) (L : List Sg) (m : Nat) : Prop where
  tab : TabW W0
  base : Below W0.heap.size W0 w
  hr : W0.heap.size ≤ rb
  hm : W0.heap.size ≤ mb
  hA : ∀ b o, A = some ⟨b, o, none⟩ → b < w.heap.size ∧ b ≠ mb
  ne : mb ≠ rb
  rd : RdAt w rb A c n i L 0 0
  many : ManyAt w mb m
section
variable {W0 w w' : World} {rb mb : Nat} {A : Option Addr} {c n i i' : Nat} {L : List Sg} {m m' : Nat}
theorem EnvR.step (h : EnvR W0 w rb mb A c n i L m) (hk : KeepM rb mb w w') (r : RdAt w' rb A c n i' L 0 0) (mm : ManyAt w' mb m') : EnvR W0 w' rb mb A c n i' L m' :=
  ⟨h.tab, hk.base h.base h.hr h.hm, h.hr, h.hm, fun b o e => ⟨Nat.lt_of_lt_of_le (h.hA b o e).1 hk.size, (h.hA b o e).2⟩, h.ne, r, mm⟩
theorem EnvR.below (h : EnvR W0 w rb mb A c n i L m) (hb : Below w.heap.size w w') : EnvR W0 w' rb mb A c n i L m := h.step (KeepM.of_below hb) (h.rd.below hb) (h.many.below hb)
theorem EnvR.setg (h : EnvR W0 w rb mb A c n i L m) {g : Nat} (hg : g ≠ rb) (hgm : g ≠ mb) (hgA : ∀ b o, A = some ⟨b, o, none⟩ → b ≠ g) (h0 : W0.heap.size ≤ g) (o : Nat) (v : Value) : EnvR W0 (w.setCell ⟨g, o, none⟩ v) rb mb A c n i L m :=
  ⟨h.tab, h.base.setCell (p := ⟨g, o, none⟩) h0 v, h.hr, h.hm, fun b o' e => ⟨by simpa using (h.hA b o' e).1, (h.hA b o' e).2⟩, h.ne, h.rd.setg hg hgA o v, h.many.set hgm v⟩
theorem EnvR.at1 (h : EnvR W0 w rb mb A c n i L m) (hi : i + 1 ≤ 6000) : EnvR W0 (w.setCell ⟨rb, 2, none⟩ (.int .i64 ((i : Int) + 1))) rb mb A c n (i + 1) L m :=
  ⟨h.tab, h.base.setCell (p := ⟨rb, 2, none⟩) h.hr _, h.hr, h.hm, fun b o' e => ⟨by simpa using (h.hA b o' e).1, (h.hA b o' e).2⟩, h.ne, h.rd.seti1 hi, h.many.set (fun e => h.ne e.symm) _⟩
theorem EnvR.lts (h : EnvR W0 w rb mb A c n i L m) : rb < w.heap.size ∧ mb < w.heap.size := ⟨h.rd.lt, lt_of_block h.many⟩
theorem EnvR.as (h : EnvR W0 w rb mb A c n i L m) : ∀ b o, A = some ⟨b, o, none⟩ → b < w.heap.size := fun b o e => (h.hA b o e).1
end
/-- what reading statements, a statement leaves -/
def GotSs (w w' : World) (rb mb : Nat) (A : Option Addr) (c n : Nat) (L : List Sg) (g : Got (List St × Nat)) (e : Ending) : Prop :=
  KeepM rb mb w w' ∧ match g with
    | .ok b q => ∃ A' c' m', e = .returned (.tuple #[.slice A' b.1.length c', .bool true]) ∧ b.1.length ≤ c' ∧ c' ≤ maxLen ∧ StRowO w' (Made w w') A' b.1 ∧ RdAt w' rb A c n q L 0 0 ∧ m' + b.2 = 60 ∧ ManyAt w' mb m'
    | .bad fc fp => ∃ q m', e = .returned (.tuple #[.slice none 0 0, .bool false]) ∧ RdAt w' rb A c n q L fc fp ∧ ManyAt w' mb m'
def GotS1 (w w' : World) (rb mb : Nat) (A : Option Addr) (c n : Nat) (L : List Sg) (g : Got (St × Nat)) (e : Ending) : Prop :=
  KeepM rb mb w w' ∧ match g with
    | .ok b q => ∃ (x : V8) (m' : Nat), e = .returned (.tuple #[.agg #[.int .i64 x.k, .string x.s, .int .i64 x.tk, .int .i64 x.tn, .string x.ts, .slice x.tA x.tm x.tc, .slice x.bA x.bm x.bc, .slice x.eA x.em x.ec], .bool true]) ∧ StO w' (Made w w') x b.1 ∧ RdAt w' rb A c n q L 0 0 ∧ m' + b.2 = 60 ∧ ManyAt w' mb m'
    | .bad fc fp => ∃ (x : V8) (q m' : Nat), e = .returned (.tuple #[.agg #[.int .i64 x.k, .string x.s, .int .i64 x.tk, .int .i64 x.tn, .string x.ts, .slice x.tA x.tm x.tc, .slice x.bA x.bm x.bc, .slice x.eA x.em x.ec], .bool false]) ∧ RdAt w' rb A c n q L fc fp ∧ ManyAt w' mb m'
abbrev SsC (r : Nat) : Prop := ∀ (d : Int) (W0 w : World) (rb mb : Nat) (A : Option Addr) (c n i : Nat) (L : List Sg) (m left : Nat), d = 6 - (r : Int) → EnvR W0 w rb mb A c n i L m → m + left = 60 →
  Calls Tryd.prog 62 #[.pointer (some ⟨rb, 0, none⟩), .int .i64 d, .pointer (some ⟨mb, 0, none⟩)] w fun e w' => GotSs w w' rb mb A c n L (chkG L n (rdS L n r i left)) e
abbrev BlC (r : Nat) : Prop := ∀ (d : Int) (W0 w : World) (rb mb : Nat) (A : Option Addr) (c n i : Nat) (L : List Sg) (m left : Nat), d = 6 - (r : Int) → EnvR W0 w rb mb A c n i L m → m + left = 60 →
  Calls Tryd.prog 52 #[.pointer (some ⟨rb, 0, none⟩), .int .i64 d, .pointer (some ⟨mb, 0, none⟩)] w fun e w' => GotSs w w' rb mb A c n L (blkG L n (rdS L n r) i left) e
abbrev NeC (r : Nat) : Prop := ∀ (d : Int) (W0 w : World) (rb mb : Nat) (A : Option Addr) (c n i : Nat) (L : List Sg) (m left : Nat) (k : Int), d + 1 = 6 - (r : Int) → d ≤ 6 → EnvR W0 w rb mb A c n i L m → m + left = 60 → (k = 2 ∨ k = 3) → i < L.length →
  Calls Tryd.prog 70 #[.pointer (some ⟨rb, 0, none⟩), .int .i64 k, .int .i64 d, .pointer (some ⟨mb, 0, none⟩)] w fun e w' => GotS1 w w' rb mb A c n L (nesG L n (rdS L n r) k i left) e
abbrev OnC (r : Nat) : Prop := ∀ (d : Int) (W0 w : World) (rb mb : Nat) (A : Option Addr) (c n i : Nat) (L : List Sg) (m left : Nat) (k : Int), ((k = 2 ∨ k = 3) → d + 1 = 6 - (r : Int)) → d ≤ 6 → EnvR W0 w rb mb A c n i L m → m + left = 60 → wordOf L i = k → k ≠ 0 →
  Calls Tryd.prog 67 #[.pointer (some ⟨rb, 0, none⟩), .int .i64 k, .int .i64 d, .pointer (some ⟨mb, 0, none⟩)] w fun e w' => GotS1 w w' rb mb A c n L (oneG L n (rdS L n r) k i left) e
theorem cells8R {w : World} {g : Nat} {a0 a1 a2 a3 a4 a5 a6 a7 : Value} {T : TypeId} (h : w.heap[g]? = some (.cells #[a0, a1, a2, a3, a4, a5, a6, a7] T (0, 0))) :
    (w.cell? ⟨g, 0, none⟩ = some a0 ∧ w.cell? ⟨g, 1, none⟩ = some a1 ∧ w.cell? ⟨g, 2, none⟩ = some a2 ∧ w.cell? ⟨g, 3, none⟩ = some a3 ∧ w.cell? ⟨g, 4, none⟩ = some a4 ∧ w.cell? ⟨g, 5, none⟩ = some a5 ∧ w.cell? ⟨g, 6, none⟩ = some a6 ∧ w.cell? ⟨g, 7, none⟩ = some a7) ∧
    w.frozen? ⟨g, 0, none⟩ = false ∧ w.frozen? ⟨g, 1, none⟩ = false ∧ w.frozen? ⟨g, 2, none⟩ = false ∧ w.frozen? ⟨g, 3, none⟩ = false ∧ w.frozen? ⟨g, 4, none⟩ = false ∧ w.frozen? ⟨g, 5, none⟩ = false ∧ w.frozen? ⟨g, 6, none⟩ = false ∧ w.frozen? ⟨g, 7, none⟩ = false := by
  refine ⟨⟨?_, ?_, ?_, ?_, ?_, ?_, ?_, ?_⟩, ?_, ?_, ?_, ?_, ?_, ?_, ?_, ?_⟩
  all_goals first | exact Lib.frozen_of_heap h _ | (rw [Lib.cell_of_heap h]; rfl)
section
variable {w : World} {g : Nat} {a0 a1 a2 a3 a4 a5 a6 a7 : Value} {T : TypeId}
theorem s8_1 (h : w.heap[g]? = some (.cells #[a0, a1, a2, a3, a4, a5, a6, a7] T (0, 0))) (v : Value) : (w.setCell ⟨g, 1, none⟩ v).heap[g]? = some (.cells #[a0, v, a2, a3, a4, a5, a6, a7] T (0, 0)) := by simp [World.setCell, Array.getElem?_modify, h]
theorem s8_6 (h : w.heap[g]? = some (.cells #[a0, a1, a2, a3, a4, a5, a6, a7] T (0, 0))) (v : Value) : (w.setCell ⟨g, 6, none⟩ v).heap[g]? = some (.cells #[a0, a1, a2, a3, a4, a5, v, a7] T (0, 0)) := by simp [World.setCell, Array.getElem?_modify, h]
theorem s8_7 (h : w.heap[g]? = some (.cells #[a0, a1, a2, a3, a4, a5, a6, a7] T (0, 0))) (v : Value) : (w.setCell ⟨g, 7, none⟩ v).heap[g]? = some (.cells #[a0, a1, a2, a3, a4, a5, a6, v] T (0, 0)) := by simp [World.setCell, Array.getElem?_modify, h]
theorem s8_t (h : w.heap[g]? = some (.cells #[a0, a1, a2, a3, a4, a5, a6, a7] T (0, 0))) (x y z u : Value) : ((((w.setCell ⟨g, 2, none⟩ x).setCell ⟨g, 3, none⟩ y).setCell ⟨g, 4, none⟩ z).setCell ⟨g, 5, none⟩ u).heap[g]? = some (.cells #[a0, a1, x, y, z, u, a6, a7] T (0, 0)) := by simp [World.setCell, Array.getElem?_modify, h]
end
theorem stRowO_nilR {w : World} {F : Nat → Prop} {A : Option Addr} : StRowO w F A [] := stRowO_of (xs := []) (G := fun _ _ => False) rfl (RowO.nil _ _ _ _ _) (fun i h => absurd h (by simp))
theorem stO_flatR {w : World} {F T : Nat → Prop} {k : Int} {s : ByteArray} {tk tn : Int} {ts : ByteArray} {tA : Option Addr} {tm tc : Nat} {t : Tm} (hk : i64in k) (hs : s.size ≤ maxLen) (ht : TmO w T [.int .i64 tk, .int .i64 tn, .string ts, .slice tA tm tc] t) (hF : ∀ b, T b → F b) :
    StO w F ⟨k, s, tk, tn, ts, tA, tm, tc, none, 0, 0, none, 0, 0⟩ (.mk k s t [] []) :=
  StO.mk' (T := T) (B := fun _ => False) (E := fun _ => False) (x := ⟨k, s, tk, tn, ts, tA, tm, tc, none, 0, 0, none, 0, 0⟩) hk hs ht rfl (Nat.le_refl _) (Nat.zero_le _) stRowO_nilR rfl (Nat.le_refl _) (Nat.zero_le _) stRowO_nilR hF (fun _ h => h.elim) (fun _ h => h.elim) (fun _ _ h => h) (fun _ _ h => h) (fun _ h _ => h)
theorem zTmO {w : World} : TmO w (fun _ => False) [.int .i64 0, .int .i64 0, .string ⟨#[]⟩, .slice none 0 0] zTm := TmO.leaf (by unfold i64in; omega) (by unfold i64in; omega) (Nat.zero_le _)
theorem RdAt.put8 {w : World} {rb : Nat} {A : Option Addr} {c n i : Nat} {L : List Sg} {fc : Int} {fp : Nat} (h : RdAt w rb A c n i L fc fp) {g : Nat} (hg : g ≠ rb) (hA : ∀ b o, A = some ⟨b, o, none⟩ → b ≠ g) (x : V8) : RdAt (put8 w g 0 x) rb A c n i L fc fp :=
  (((((((h.setg hg hA 0 (.int .i64 x.k)).setg hg hA (0 + 1) (.string x.s)).setg hg hA (0 + 2) (.int .i64 x.tk)).setg hg hA (0 + 3) (.int .i64 x.tn)).setg hg hA (0 + 4) (.string x.ts)).setg hg hA (0 + 5) (.slice x.tA x.tm x.tc)).setg hg hA (0 + 6) (.slice x.bA x.bm x.bc)).setg hg hA (0 + 7) (.slice x.eA x.em x.ec)
theorem ManyAt.put8 {w : World} {mb m g : Nat} (h : ManyAt w mb m) (hg : g ≠ mb) (x : V8) : ManyAt (put8 w g 0 x) mb m :=
  (((((((h.set (o := 0) hg (.int .i64 x.k)).set (o := 0 + 1) hg (.string x.s)).set (o := 0 + 2) hg (.int .i64 x.tk)).set (o := 0 + 3) hg (.int .i64 x.tn)).set (o := 0 + 4) hg (.string x.ts)).set (o := 0 + 5) hg (.slice x.tA x.tm x.tc)).set (o := 0 + 6) hg (.slice x.bA x.bm x.bc)).set (o := 0 + 7) hg (.slice x.eA x.em x.ec)
theorem KeepM.setg {w w' : World} {rb mb g o : Nat} (h : KeepM rb mb w w') (hg : w.heap.size ≤ g) (v : Value) : KeepM rb mb w (w'.setCell ⟨g, o, none⟩ v) :=
  ⟨h.os, h.tape, h.output, by simpa using h.size, fun b hb hS => (Below.heap_setCell w' ⟨g, o, none⟩ v b (by show b ≠ g; omega)).trans (h.block b hb hS)⟩
theorem KeepM.put8 {w w' : World} {rb mb g : Nat} (h : KeepM rb mb w w') (hg : w.heap.size ≤ g) (x : V8) : KeepM rb mb w (put8 w' g 0 x) :=
  KeepM.setg (KeepM.setg (KeepM.setg (KeepM.setg (KeepM.setg (KeepM.setg (KeepM.setg (KeepM.setg h (o := 0) hg (.int .i64 x.k)) (o := 0 + 1) hg (.string x.s)) (o := 0 + 2) hg (.int .i64 x.tk)) (o := 0 + 3) hg (.int .i64 x.tn)) (o := 0 + 4) hg (.string x.ts)) (o := 0 + 5) hg (.slice x.tA x.tm x.tc)) (o := 0 + 6) hg (.slice x.bA x.bm x.bc)) (o := 0 + 7) hg (.slice x.eA x.em x.ec)
/-- the ends of the readers of one statement -/
theorem finB {w Wn : World} {rb mb : Nat} {A : Option Addr} {c n q : Nat} {L : List Sg} {fc : Int} {fp m' g : Nat} (x : V8) (hg : w.heap.size = g) (hk : KeepM rb mb w Wn) (hr : RdAt Wn rb A c n q L fc fp) (hm : ManyAt Wn mb m') (hA : ∀ b o, A = some ⟨b, o, none⟩ → b < w.heap.size) (hrb : rb < w.heap.size) (hmb : mb < w.heap.size) :
    GotS1 w (put8 Wn g 0 x) rb mb A c n L (.bad fc fp) (.returned (.tuple #[.agg #[.int .i64 x.k, .string x.s, .int .i64 x.tk, .int .i64 x.tn, .string x.ts, .slice x.tA x.tm x.tc, .slice x.bA x.bm x.bc, .slice x.eA x.em x.ec], .bool false])) := by
  subst hg
  exact ⟨KeepM.put8 hk (Nat.le_refl _) x, x, q, m', rfl, hr.put8 (by omega) (fun b o e => by have := hA b o e; omega) x, hm.put8 (by omega) x⟩
theorem finO {w Wn : World} {rb mb : Nat} {A : Option Addr} {c n q : Nat} {L : List Sg} {m' g left' : Nat} {F : Nat → Prop} {s : St} (x : V8) (hg : w.heap.size = g) (hk : KeepM rb mb w Wn) (hr : RdAt Wn rb A c n q L 0 0) (hm : ManyAt Wn mb m') (hA : ∀ b o, A = some ⟨b, o, none⟩ → b < w.heap.size) (hrb : rb < w.heap.size) (hmb : mb < w.heap.size)
    (hs : StO Wn F x s) (hF : ∀ b, F b → w.heap.size < b ∧ b < Wn.heap.size) (hl : m' + left' = 60) :
    GotS1 w (put8 Wn g 0 x) rb mb A c n L (.ok (s, left') q) (.returned (.tuple #[.agg #[.int .i64 x.k, .string x.s, .int .i64 x.tk, .int .i64 x.tn, .string x.ts, .slice x.tA x.tm x.tc, .slice x.bA x.bm x.bc, .slice x.eA x.em x.ec], .bool true])) := by
  subst hg
  exact ⟨KeepM.put8 hk (Nat.le_refl _) x, x, m', rfl, (hs.put8 (g := w.heap.size) (fun h => by have := (hF _ h).1; omega) 0 x).sub (fun b hb => ⟨by have := (hF b hb).1; omega, by rw [put8_size]; exact (hF b hb).2⟩), hr.put8 (by omega) (fun b o e => by have := hA b o e; omega) x, hl, hm.put8 (by omega) x⟩
/-- the kind of statement that a word begins -/
def wordK (t : ByteArray) : Int := if t = tIf then 2 else if t = tWhile then 3 else if t = tCall then 4 else if t = tSpawn then 5 else if t = tLock then 6 else if t = tUnlock then 7 else if t = tSkip then 8 else if isNameL t.data.toList = true then 1 else 0
theorem wordOf_k (L : List Sg) (i : Nat) : wordOf L i = wordK (tx L i) := rfl
set_option maxHeartbeats 1600000 in
set_option maxRecDepth 100000 in
theorem impl_wordKind (t : ByteArray) (w : World) : Calls Tryd.prog 66 #[.string t] w fun e w' => e = .returned (.int .i64 (wordK t)) ∧ w = w' := by
  by_cases h0 : t = tIf
  · have F : Hid (wordK t = 2) := Lib.hid (by unfold wordK; rw [if_pos h0])
    have q0 := txt_lity (l := [105, 102]) h0
    clear h0
    go_enter Tryd.func66, Tryd.ntmps66
    go_wp2_with fail
    go_ret
    exact ⟨by rw [F.out]; rfl, rfl⟩
  have q0 := txt_lit (l := [105, 102]) h0
  by_cases h1 : t = tWhile
  · have F : Hid (wordK t = 3) := Lib.hid (by unfold wordK; rw [if_neg h0, if_pos h1])
    have q1 := txt_lity (l := [119, 104, 105, 108, 101]) h1
    clear h1 h0
    go_enter Tryd.func66, Tryd.ntmps66
    go_wp2_with fail
    go_ret
    exact ⟨by rw [F.out]; rfl, rfl⟩
  have q1 := txt_lit (l := [119, 104, 105, 108, 101]) h1
  by_cases h2 : t = tCall
  · have F : Hid (wordK t = 4) := Lib.hid (by unfold wordK; rw [if_neg h0, if_neg h1, if_pos h2])
    have q2 := txt_lity (l := [99, 97, 108, 108]) h2
    clear h2 h0 h1
    go_enter Tryd.func66, Tryd.ntmps66
    go_wp2_with fail
    go_ret
    exact ⟨by rw [F.out]; rfl, rfl⟩
  have q2 := txt_lit (l := [99, 97, 108, 108]) h2
  by_cases h3 : t = tSpawn
  · have F : Hid (wordK t = 5) := Lib.hid (by unfold wordK; rw [if_neg h0, if_neg h1, if_neg h2, if_pos h3])
    have q3 := txt_lity (l := [115, 112, 97, 119, 110]) h3
    clear h3 h0 h1 h2
    go_enter Tryd.func66, Tryd.ntmps66
    go_wp2_with fail
    go_ret
    exact ⟨by rw [F.out]; rfl, rfl⟩
  have q3 := txt_lit (l := [115, 112, 97, 119, 110]) h3
  by_cases h4 : t = tLock
  · have F : Hid (wordK t = 6) := Lib.hid (by unfold wordK; rw [if_neg h0, if_neg h1, if_neg h2, if_neg h3, if_pos h4])
    have q4 := txt_lity (l := [108, 111, 99, 107]) h4
    clear h4 h0 h1 h2 h3
    go_enter Tryd.func66, Tryd.ntmps66
    go_wp2_with fail
    go_ret
    exact ⟨by rw [F.out]; rfl, rfl⟩
  have q4 := txt_lit (l := [108, 111, 99, 107]) h4
  by_cases h5 : t = tUnlock
  · have F : Hid (wordK t = 7) := Lib.hid (by unfold wordK; rw [if_neg h0, if_neg h1, if_neg h2, if_neg h3, if_neg h4, if_pos h5])
    have q5 := txt_lity (l := [117, 110, 108, 111, 99, 107]) h5
    clear h5 h0 h1 h2 h3 h4
    go_enter Tryd.func66, Tryd.ntmps66
    go_wp2_with fail
    go_ret
    exact ⟨by rw [F.out]; rfl, rfl⟩
  have q5 := txt_lit (l := [117, 110, 108, 111, 99, 107]) h5
  by_cases h6 : t = tSkip
  · have F : Hid (wordK t = 8) := Lib.hid (by unfold wordK; rw [if_neg h0, if_neg h1, if_neg h2, if_neg h3, if_neg h4, if_neg h5, if_pos h6])
    have q6 := txt_lity (l := [115, 107, 105, 112]) h6
    clear h6 h0 h1 h2 h3 h4 h5
    go_enter Tryd.func66, Tryd.ntmps66
    go_wp2_with fail
    go_ret
    exact ⟨by rw [F.out]; rfl, rfl⟩
  have q6 := txt_lit (l := [115, 107, 105, 112]) h6
  cases hn : isNameL t.data.toList with
  | true =>
    have F : Hid (wordK t = 1) := Lib.hid (by unfold wordK; rw [if_neg h0, if_neg h1, if_neg h2, if_neg h3, if_neg h4, if_neg h5, if_neg h6, if_pos hn])
    have HN := Lib.hid hn
    clear hn h0 h1 h2 h3 h4 h5 h6
    go_enter Tryd.func66, Tryd.ntmps66
    go_wp2_with fail
    refine (impl_IsName t _).mono ?_
    rintro e w1 ⟨rfl, rfl⟩
    rw [HN.out]
    go_wp2_with fail
    go_ret
    exact ⟨by rw [F.out]; rfl, rfl⟩
  | false =>
    have F : Hid (wordK t = 0) := Lib.hid (by unfold wordK; rw [if_neg h0, if_neg h1, if_neg h2, if_neg h3, if_neg h4, if_neg h5, if_neg h6, if_neg (by rw [hn]; decide)])
    have HN := Lib.hid hn
    clear hn h0 h1 h2 h3 h4 h5 h6
    go_enter Tryd.func66, Tryd.ntmps66
    go_wp2_with fail
    refine (impl_IsName t _).mono ?_
    rintro e w1 ⟨rfl, rfl⟩
    rw [HN.out]
    go_wp2_with fail
    go_ret
    exact ⟨by rw [F.out]; rfl, rfl⟩
theorem blk_bad {L : List Sg} {n r i left : Nat} (h : ¬ tx L i = ⟨#[123]⟩) : blkG L n (rdS L n r) i left = .bad 3 (posAt L n i) := by unfold blkG; rw [tk_bad h]; rfl
theorem blk_ok {L : List Sg} {n r i left : Nat} (h : tx L i = ⟨#[123]⟩) : blkG L n (rdS L n r) i left = (chkG L n (rdS L n r (i + 1) left)).bind fun b i2 => (tk L n ⟨#[125]⟩ i2).bind fun _ i3 => .ok b i3 := by
  rw [← blkG_chk]; unfold blkG; rw [tk_ok h]; rfl
set_option maxHeartbeats 1600000 in
set_option maxRecDepth 100000 in
theorem rd_block_of (r : Nat) (ih : SsC r) : BlC r := by
  intro d W0 w rb mb A c n i L m left hd ee hml
  have IH := Lib.hid ih
  have EE := Lib.hid ee
  have HD := Lib.hid hd
  clear ih ee hd
  go_enter Tryd.func52, Tryd.ntmps52
  go_wp2_with fail
  refine (rd_take ⟨#[123]⟩ _ rb A c n i L 0 EE.out.rd (by decide)).mono ?_
  rintro e w1 ⟨k1, hret⟩
  have K1 : Hid (KeepM rb mb w w1) := Lib.hid (KeepM.of_r k1)
  have M1 := Lib.hid (EE.out.many.keepR k1 EE.out.ne)
  clear k1
  rcases hret with ⟨ht, rfl, r1⟩ | ⟨ht, rfl, r1⟩
  · have E1 := Lib.hid (EE.out.step K1.out r1 M1.out)
    have GB := Lib.hid (blk_ok (n := n) (r := r) (left := left) ht)
    clear r1 ht
    go_wp2_with fail
    refine (IH.out d W0 w1 rb mb A c n (i + 1) L m left HD.out E1.out hml).mono ?_
    intro e w2 hret
    generalize chkG L n (rdS L n r (i + 1) left) = g at *
    cases g with
    | bad fc fp =>
      obtain ⟨k2, q, m', rfl, r2, mm⟩ := hret
      have K2 := Lib.hid (K1.out.trans' k2)
      have R2 := Lib.hid (And.intro r2 mm)
      clear k2 r2 mm
      go_wp2_with fail
      go_ret2
      rw [GB.out]
      exact ⟨K2.out, q, m', rfl, R2.out.1, R2.out.2⟩
    | ok b q =>
      obtain ⟨k2, A', c', m', rfl, hl1, hl2, row, r2, hm', mm⟩ := hret
      obtain ⟨bl, lf⟩ := b
      simp only at hl1 row hm'
      have K2 := Lib.hid (K1.out.trans' k2)
      have R2 := Lib.hid r2
      have M2 := Lib.hid mm
      have RW := Lib.hid row
      have S12 := Lib.hid k2.size
      have S01 := Lib.hid K1.out.size
      clear k2 r2 mm row
      go_wp2_with fail
      refine (rd_take ⟨#[125]⟩ _ rb A c n q L 0 R2.out (by decide)).mono ?_
      rintro e w3 ⟨k3, hret⟩
      have K3 : Hid (KeepM rb mb w w3) := Lib.hid (K2.out.trans' (KeepM.of_r k3))
      have M3 := Lib.hid (M2.out.keepR k3 EE.out.ne)
      have HL := Lib.hid EE.out.lts
      have RW3 : Hid (StRowO w3 (Made w w3) A' bl) := Lib.hid ((RW.out.keep fun b hb => k3.block b hb.2 (by have := hb.1; have := HL.out.1; have := S01.out; omega)).sub fun b hb => ⟨by have := hb.1; have := S01.out; omega, by have := hb.2; have := k3.size; omega⟩)
      clear k3
      rcases hret with ⟨ht, rfl, r3⟩ | ⟨ht, rfl, r3⟩
      · have R3 := Lib.hid r3
        have G2 : Hid (blkG L n (rdS L n r) i left = .ok (bl, lf) (q + 1)) := Lib.hid (by rw [GB.out, bind_ok, tk_ok ht, bind_ok])
        clear r3 ht
        go_wp2_with fail
        go_ret2
        rw [G2.out]
        exact ⟨K3.out, A', c', m', rfl, hl1, hl2, RW3.out, R3.out, hm', M3.out⟩
      · have R3 := Lib.hid r3
        have G2 : Hid (blkG L n (rdS L n r) i left = .bad 3 (posAt L n q)) := Lib.hid (by rw [GB.out, bind_ok, tk_bad ht]; rfl)
        clear r3 ht
        go_wp2_with fail
        go_ret2
        rw [G2.out]
        exact ⟨K3.out, q, m', rfl, R3.out, M3.out⟩
  · have R1 := Lib.hid r1
    have GB := Lib.hid (blk_bad (n := n) (r := r) (left := left) ht)
    clear r1 ht
    go_wp2_with fail
    go_ret2
    rw [GB.out]
    exact ⟨K1.out, i, m, rfl, R1.out, M1.out⟩
end Go.Proofs.YtdanlgmpgdipnaaDoor
