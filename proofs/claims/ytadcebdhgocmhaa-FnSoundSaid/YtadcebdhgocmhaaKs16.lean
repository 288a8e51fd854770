/- Several texts in one: Owned, TermOwn. -/
import Derived.Test.YtadcebdhgocmhaaKs2
import Derived.Laws.Rows
import Derived.Test.YtadcebdhgocmhaaKs7
import Derived.Test.YtadcebdhgocmhaaKs15
namespace Go.Proofs.Ytadcebdhgocmhaa
open Go.RowKit
set_option linter.unusedVariables false


/-- a row of n things of sz cells in a block of F of its own; G i: the blocks of what hangs on thing i -/
def RowO (w : World) (F : Nat → Prop) (sz : Nat) (A : Option Addr) (n : Nat) (cs : List Value) (G : Nat → Nat → Prop) : Prop :=
  Rd w sz A n cs ∧ (0 < n → ∃ b off cur e, A = some ⟨b, off, none⟩ ∧ F b ∧ w.heap[b]? = some (.cells cur e (0, 0)) ∧ ∀ i, i < n → ¬ G i b) ∧ (∀ i b, i < n → G i b → F b) ∧ ∀ i j b, i < n → j < n → i ≠ j → G i b → G j b → False
theorem RowO.nil (w : World) (F : Nat → Prop) (sz : Nat) (A : Option Addr) (G : Nat → Nat → Prop) : RowO w F sz A 0 [] G := ⟨Rd.nil, fun h => absurd h (by omega), fun i b h => absurd h (by omega), fun i j b h => absurd h (by omega)⟩
theorem RowO.sub {w : World} {F F' : Nat → Prop} {sz n : Nat} {A : Option Addr} {cs : List Value} {G : Nat → Nat → Prop} (h : RowO w F sz A n cs G) (hF : ∀ b, F b → F' b) : RowO w F' sz A n cs G :=
  ⟨h.1, fun hn => by obtain ⟨b, off, cur, e, h1, h2, h3⟩ := h.2.1 hn; exact ⟨b, off, cur, e, h1, hF b h2, h3⟩, fun i b hi hg => hF b (h.2.2.1 i b hi hg), h.2.2.2⟩
theorem RowO.keep {w w' : World} {F : Nat → Prop} {sz n : Nat} {A : Option Addr} {cs : List Value} {G : Nat → Nat → Prop} (h : RowO w F sz A n cs G) (hk : ∀ b, F b → w'.heap[b]? = w.heap[b]?) : RowO w' F sz A n cs G := by
  obtain ⟨rd, h1, h2, h3⟩ := h
  refine ⟨⟨rd.1, fun hn => ?_⟩, fun hn => ?_, h2, h3⟩
  · obtain ⟨b, off, e, hc⟩ := rd.2 hn
    obtain ⟨b', off', cur, ty, e', hF, _⟩ := h1 hn
    rw [e] at e'
    injection e' with e'
    injection e' with e1 e2
    subst e1 e2
    exact ⟨b, off, e, fun j u hu => (World.cell?_of_block (w := w) (a := ⟨b, off + j, none⟩) (hk b hF)).trans (hc j u hu)⟩
  · obtain ⟨b, off, cur, e, e1, hF, hb, hG⟩ := h1 hn
    exact ⟨b, off, cur, e, e1, hF, (hk b hF).trans hb, hG⟩
theorem RowO.lt {w : World} {F : Nat → Prop} {sz n : Nat} {b off : Nat} {cs : List Value} {G : Nat → Nat → Prop} (h : RowO w F sz (some ⟨b, off, none⟩) n cs G) (hn : 0 < n) : b < w.heap.size ∧ F b ∧ ∃ cur e, w.heap[b]? = some (.cells cur e (0, 0)) := by
  obtain ⟨b', off', cur, e, e1, hF, hb, _⟩ := h.2.1 hn
  injection e1 with e1
  injection e1 with e1 e2
  subst e1 e2
  refine ⟨?_, hF, cur, e, hb⟩
  rcases Nat.lt_or_ge b w.heap.size with hlt | hge
  · exact hlt
  · rw [Array.getElem?_eq_none hge] at hb; cases hb
/-- blocks of plain cells that F lets -/
def Pl (w : World) (F : Nat → Prop) : Nat → Prop := fun b => F b ∧ ∃ cur e, w.heap[b]? = some (.cells cur e (0, 0))
/-- blocks made between two worlds -/
def Made (w w' : World) : Nat → Prop := fun b => w.heap.size ≤ b ∧ b < w'.heap.size
theorem plain_set {w : World} {b : Nat} (h : ∃ cur e, w.heap[b]? = some (.cells cur e (0, 0))) (g o : Nat) (u : Value) : ∃ cur e, (w.setCell ⟨g, o, none⟩ u).heap[b]? = some (.cells cur e (0, 0)) := by
  obtain ⟨cur, e, h⟩ := h
  by_cases hb : b = g
  · subst hb
    exact ⟨_, e, heap_setCell_same w b o cur e u h⟩
  · exact ⟨cur, e, (Below.heap_setCell w ⟨g, o, none⟩ u b hb).trans h⟩
/-- a row of things, each read by P, in blocks of F, all apart -/
def RowOf {α : Type} (P : World → (Nat → Prop) → List Value → α → Prop) (w : World) (F : Nat → Prop) (sz : Nat) (A : Option Addr) (xs : List α) : Prop :=
  ∃ cs G, RowO w F sz A xs.length cs G ∧ ∀ i (h : i < xs.length), P w (G i) ((cs.drop (i * sz)).take sz) xs[i]
theorem plain_free {w : World} {b : Nat} (h : ∃ cur e, w.heap[b]? = some (.cells cur e (0, 0))) (o : Nat) : w.frozen? ⟨b, o, none⟩ = false := by
  obtain ⟨cur, e, h⟩ := h
  simp [World.frozen?, h]
theorem plain_below {w w' : World} {b : Nat} (h : ∃ cur e, w.heap[b]? = some (.cells cur e (0, 0))) (hb : Below w.heap.size w w') : ∃ cur e, w'.heap[b]? = some (.cells cur e (0, 0)) := by
  obtain ⟨cur, e, h⟩ := h
  refine ⟨cur, e, (hb.block b ?_).trans h⟩
  rcases Nat.lt_or_ge b w.heap.size with hlt | hge
  · exact hlt
  · rw [Array.getElem?_eq_none hge] at h; cases h
/-- one thing of such a row: its cells, its blocks, and the row once that thing has become another -/
theorem RowOf.focus {α : Type} {P : World → (Nat → Prop) → List Value → α → Prop} (hP : ∀ w w' G cells x, P w G cells x → (∀ b, G b → w'.heap[b]? = w.heap[b]?) → P w' G cells x) {w : World} {F : Nat → Prop} {sz : Nat} {A : Option Addr} {xs : List α} (row : RowOf P w F sz A xs) {i : Nat} (hi : i < xs.length) :
    ∃ b off G cells, A = some ⟨b, off, none⟩ ∧ cells.length = sz ∧ (∀ r u, cells[r]? = some u → w.cell? ⟨b, off + i * sz + r, none⟩ = some u) ∧ P w G cells xs[i] ∧ F b ∧ (∃ cur e, w.heap[b]? = some (.cells cur e (0, 0))) ∧ (∀ x, G x → F x ∧ x ≠ b) ∧
      (∀ (w' : World) (cells' : List Value) (x' : α), cells'.length = sz → (∃ cur e, w'.heap[b]? = some (.cells cur e (0, 0))) → (∀ r u, cells'[r]? = some u → w'.cell? ⟨b, off + i * sz + r, none⟩ = some u) → (∀ o, o < off + i * sz ∨ off + i * sz + sz ≤ o → w'.cell? ⟨b, o, none⟩ = w.cell? ⟨b, o, none⟩) → (∀ y, F y → y ≠ b → ¬ G y → w'.heap[y]? = w.heap[y]?) → P w' G cells' x' → RowOf P w' F sz A (xs.set i x')) := by
  obtain ⟨cs, G, ⟨rd, hown, hsub, hap⟩, hx⟩ := row
  obtain ⟨b, off, cur, e, rfl, hF, hblk, hG⟩ := hown (by omega)
  obtain ⟨b', off', eA, hc⟩ := rd.2 (by omega)
  injection eA with eA
  injection eA with e1 e2
  subst e1 e2
  have hle : i * sz + sz ≤ xs.length * sz := by rw [← Nat.succ_mul]; exact Nat.mul_le_mul_right _ hi
  refine ⟨b, off, G i, (cs.drop (i * sz)).take sz, rfl, by rw [List.length_take, List.length_drop, rd.1]; omega, fun r u hu => ?_, hx i hi, hF, ⟨cur, e, hblk⟩, fun x hg => ⟨hsub i x hi hg, fun e => hG i hi (e ▸ hg)⟩, fun w' cells' x' hcl hpl hcc hout hk hp => ?_⟩
  · rw [List.getElem?_take] at hu
    split at hu
    · rw [List.getElem?_drop] at hu
      rw [Nat.add_assoc]
      exact hc _ _ hu
    · cases hu
  · obtain ⟨cur', e', hblk'⟩ := hpl
    have hget : ∀ j, (cs.take (i * sz) ++ cells' ++ cs.drop (i * sz + sz))[j]? = if j < i * sz then cs[j]? else if j < i * sz + sz then cells'[j - i * sz]? else cs[j]? := by
      intro j
      have l1 : (cs.take (i * sz)).length = i * sz := by rw [List.length_take, rd.1]; omega
      by_cases h1 : j < i * sz
      · rw [if_pos h1, List.append_assoc, List.getElem?_append_left (by omega), List.getElem?_take, if_pos h1]
      · rw [if_neg h1]
        by_cases h2 : j < i * sz + sz
        · rw [if_pos h2, List.getElem?_append_left (by rw [List.length_append, l1, hcl]; omega), List.getElem?_append_right (by omega), l1]
        · rw [if_neg h2, List.getElem?_append_right (by rw [List.length_append, l1, hcl]; omega), List.getElem?_drop, List.length_append, l1, hcl]
          congr 1; omega
    have hchunk : ∀ k, k < xs.length → ((cs.take (i * sz) ++ cells' ++ cs.drop (i * sz + sz)).drop (k * sz)).take sz = if k = i then cells' else (cs.drop (k * sz)).take sz := by
      intro k hk'
      apply List.ext_getElem?
      intro j
      rw [List.getElem?_take]
      by_cases hj : j < sz
      · rw [if_pos hj, List.getElem?_drop, hget]
        by_cases ek : k = i
        · subst ek
          rw [if_pos rfl, if_neg (by omega), if_pos (by omega)]
          congr 1; omega
        · rw [if_neg ek, List.getElem?_take, if_pos hj, List.getElem?_drop]
          rcases Nat.lt_or_gt_of_ne ek with h | h
          · have : (k + 1) * sz ≤ i * sz := Nat.mul_le_mul_right _ h
            rw [Nat.succ_mul] at this
            rw [if_pos (by omega)]
          · have : (i + 1) * sz ≤ k * sz := Nat.mul_le_mul_right _ h
            rw [Nat.succ_mul] at this
            rw [if_neg (by omega), if_neg (by omega)]
      · rw [if_neg hj]
        by_cases ek : k = i
        · rw [if_pos ek, List.getElem?_eq_none (by omega)]
        · rw [if_neg ek, List.getElem?_take, if_neg hj]
    refine ⟨cs.take (i * sz) ++ cells' ++ cs.drop (i * sz + sz), G, ⟨⟨?_, fun hn => ⟨b, off, rfl, fun j u hu => ?_⟩⟩, fun hn => ⟨b, off, cur', e', rfl, hF, hblk', fun k hk' => hG k (by simpa using hk')⟩, fun k y hk' => hsub k y (by simpa using hk'), fun k l y h1 h2 => hap k l y (by simpa using h1) (by simpa using h2)⟩, fun k hk' => ?_⟩
    · rw [List.length_set, List.length_append, List.length_append, List.length_take, List.length_drop, hcl, rd.1]; omega
    · rw [hget] at hu
      split at hu
      · rw [hout _ (.inl (by omega))]; exact hc j u hu
      · split at hu
        · have := hcc (j - i * sz) u hu
          rwa [show off + i * sz + (j - i * sz) = off + j from by omega] at this
        · rw [hout _ (.inr (by omega))]; exact hc j u hu
    · rw [List.length_set] at hk'
      rw [hchunk k hk']
      by_cases ek : i = k
      · subst ek
        rw [List.getElem_set_self, if_pos rfl]
        exact hp
      · rw [List.getElem_set_ne ek, if_neg (fun e => ek e.symm)]
        exact hP _ _ _ _ _ (hx k hk') fun y hy => hk y (hsub k y hk' hy) (fun e => hG k hk' (e ▸ hy)) fun hy' => hap k i y hk' hi (fun e => ek e.symm) hy hy'

/-- a term whose kids' memory lies in blocks of F, each row apart -/
inductive TmO (w : World) : (Nat → Prop) → List Value → Tm → Prop
  | mk (F : Nat → Prop) (k n : Int) (s : ByteArray) (A : Option Addr) (c : Nat) (cs : List Value) (kids : List Tm) (G : Nat → Nat → Prop) (hk : i64in k) (hn : i64in n) (hs : s.size ≤ maxLen) (hl : kids.length ≤ c) (hc : c ≤ maxLen) (row : RowO w F 4 A kids.length cs G)
      (hx : ∀ i (h : i < kids.length), TmO w (G i) ((cs.drop (i * 4)).take 4) kids[i]) : TmO w F [.int .i64 k, .int .i64 n, .string s, .slice A kids.length c] (.mk k n s kids)
def TmRowO (w : World) (F : Nat → Prop) (A : Option Addr) (ts : List Tm) : Prop :=
  ∃ cs G, RowO w F 4 A ts.length cs G ∧ ∀ i (h : i < ts.length), TmO w (G i) ((cs.drop (i * 4)).take 4) ts[i]
theorem TmO.inv {F : Nat → Prop} {w : World} {k n : Int} {s : ByteArray} {A : Option Addr} {m c : Nat} {t : Tm} (h : TmO w F [.int .i64 k, .int .i64 n, .string s, .slice A m c] t) :
    ∃ kids, t = .mk k n s kids ∧ m = kids.length ∧ kids.length ≤ c ∧ c ≤ maxLen ∧ i64in k ∧ i64in n ∧ s.size ≤ maxLen ∧ TmRowO w F A kids := by
  cases h with
  | mk _ _ _ _ _ _ cs kids G hk hn hs hl hc row hx => exact ⟨kids, rfl, rfl, hl, hc, hk, hn, hs, cs, G, row, hx⟩
theorem TmO.mk' {F : Nat → Prop} {w : World} {k n : Int} {s : ByteArray} {A : Option Addr} {c : Nat} {kids : List Tm} (hk : i64in k) (hn : i64in n) (hs : s.size ≤ maxLen) (hl : kids.length ≤ c) (hc : c ≤ maxLen) (row : TmRowO w F A kids) :
    TmO w F [.int .i64 k, .int .i64 n, .string s, .slice A kids.length c] (.mk k n s kids) := by
  obtain ⟨cs, G, r, hx⟩ := row
  exact .mk F k n s A c cs kids G hk hn hs hl hc r hx
theorem TmO.form {F : Nat → Prop} {w : World} {cs : List Value} {t : Tm} (h : TmO w F cs t) : ∃ k n s A m c, cs = [.int .i64 k, .int .i64 n, .string s, .slice A m c] := by
  cases h with
  | mk _ k n s A c cs kids G hk hn hs hl hc row hx => exact ⟨k, n, s, A, _, c, rfl⟩
theorem TmO.sub {F F' : Nat → Prop} {w : World} {cs : List Value} {t : Tm} (h : TmO w F cs t) (hF : ∀ b, F b → F' b) : TmO w F' cs t := by
  cases h with
  | mk _ k n s A c cs kids G hk hn hs hl hc row hx => exact .mk F' k n s A c cs kids G hk hn hs hl hc (row.sub hF) hx
theorem TmRowO.sub {F F' : Nat → Prop} {w : World} {A : Option Addr} {ts : List Tm} (h : TmRowO w F A ts) (hF : ∀ b, F b → F' b) : TmRowO w F' A ts := by
  obtain ⟨cs, G, r, hx⟩ := h
  exact ⟨cs, G, r.sub hF, hx⟩
theorem TmO.keep {F : Nat → Prop} {w w' : World} {cs : List Value} {t : Tm} (h : TmO w F cs t) (hk : ∀ b, F b → w'.heap[b]? = w.heap[b]?) : TmO w' F cs t := by
  induction h with
  | mk F k n s A c cs kids G h1 h2 h3 hl hc row hx ih => exact .mk F k n s A c cs kids G h1 h2 h3 hl hc (row.keep hk) fun i hi => ih i hi fun b hb => hk b (row.2.2.1 i b hi hb)
theorem TmRowO.keep {F : Nat → Prop} {w w' : World} {A : Option Addr} {ts : List Tm} (h : TmRowO w F A ts) (hk : ∀ b, F b → w'.heap[b]? = w.heap[b]?) : TmRowO w' F A ts := by
  obtain ⟨cs, G, row, hx⟩ := h
  exact ⟨cs, G, row.keep hk, fun i hi => (hx i hi).keep fun b hb => hk b (row.2.2.1 i b hi hb)⟩
theorem TmO.is {F : Nat → Prop} {w : World} {cs : List Value} {t : Tm} (h : TmO w F cs t) : TmIs (Pl w F) w cs t := by
  induction h with
  | mk F k n s A c cs kids G h1 h2 h3 hl hc row hx ih =>
    refine .mk k n s A c cs kids h1 h2 h3 hl hc row.1 (fun b off e hn => ?_) fun i hi => (ih i hi).keep (fun _ _ _ => rfl) (fun b _ ⟨q1, q2⟩ => ⟨row.2.2.1 i b hi q1, q2⟩)
    subst e
    exact (row.lt hn).2
theorem TmRowO.is {F : Nat → Prop} {w : World} {A : Option Addr} {ts : List Tm} (h : TmRowO w F A ts) : TmRow (Pl w F) w A ts := by
  obtain ⟨cs, G, row, hx⟩ := h
  refine ⟨cs, row.1, fun b off e hn => ?_, fun i hi => (hx i hi).is.keep (fun _ _ _ => rfl) (fun b _ ⟨q1, q2⟩ => ⟨row.2.2.1 i b hi q1, q2⟩)⟩
  subst e
  exact (row.lt hn).2
theorem TmO.any {F : Nat → Prop} {w : World} {cs : List Value} {t : Tm} (h : TmO w F cs t) : TmIs AnyB w cs t := h.is.any
theorem TmRowO.any {F : Nat → Prop} {w : World} {A : Option Addr} {ts : List Tm} (h : TmRowO w F A ts) : TmRow AnyB w A ts := h.is.any
theorem TmO.fr {w w' W : World} {cs : List Value} {t : Tm} (h : TmO W (Made w w') cs t) : TmIs (Fr w.heap.size W) W cs t := h.is.keep (fun _ _ _ => rfl) (fun b _ ⟨q1, q2⟩ => ⟨q1.1, q2⟩)
theorem TmRowO.fr {w w' W : World} {A : Option Addr} {ts : List Tm} (h : TmRowO W (Made w w') A ts) : TmRow (Fr w.heap.size W) W A ts := h.is.keep (fun _ _ _ => rfl) (fun b _ ⟨q1, q2⟩ => ⟨q1.1, q2⟩)
theorem TmO.set {w : World} {F : Nat → Prop} {cs : List Value} {t : Tm} (h : TmO w F cs t) {p : Addr} (hp : ¬ F p.block) (u : Value) : TmO (w.setCell p u) F cs t := h.keep fun b hb => Below.heap_setCell w p u b (fun e => hp (by rw [← e]; exact hb))
theorem TmRowO.set {w : World} {F : Nat → Prop} {A : Option Addr} {ts : List Tm} (h : TmRowO w F A ts) {p : Addr} (hp : ¬ F p.block) (u : Value) : TmRowO (w.setCell p u) F A ts := h.keep fun b hb => Below.heap_setCell w p u b (fun e => hp (by rw [← e]; exact hb))
theorem TmO.put4 {w : World} {F : Nat → Prop} {cs : List Value} {t : Tm} (h : TmO w F cs t) {g : Nat} (hg : ¬ F g) (o : Nat) (x : V4) : TmO (put4 w g o x) F cs t :=
  (((h.set (p := ⟨g, o, none⟩) hg _).set (p := ⟨g, o + 1, none⟩) hg _).set (p := ⟨g, o + 2, none⟩) hg _).set (p := ⟨g, o + 3, none⟩) hg _
end Go.Proofs.Ytadcebdhgocmhaa
