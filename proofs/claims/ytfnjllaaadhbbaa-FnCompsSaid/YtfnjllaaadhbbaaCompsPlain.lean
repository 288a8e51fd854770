/- What the parts of a graph are like: the plain law. -/
import Derived.Test.YtfnjllaaadhbbaaComps
import Derived.Test.YtfnjllaaadhbbaaCompsMem
import Derived.Test.YtfnjllaaadhbbaaReaches
import Derived.Test.YtfnjllaaadhbbaaCyclic
namespace Go.Proofs.Ytfnjllaaadhbbaa
open Go.RowKit
set_option linter.unusedVariables false

/-- the first list that holds a -/
def atP : List (List Nat) → Nat → Nat
  | [], _ => 0
  | l :: r, a => if l.contains a then 0 else atP r a + 1
theorem numI_has (l : List Nat) (a : Nat) : hasB (numI l) (a : Int) = l.contains a := by
  unfold hasB numI
  rw [List.any_map, Bool.eq_iff_iff, List.any_eq_true, List.contains_iff_mem]
  constructor
  · rintro ⟨x, hx, h⟩
    have : (x : Int) = (a : Int) := by simpa using h
    have e : x = a := by omega
    exact e ▸ hx
  · intro h
    exact ⟨a, h, by simp⟩
theorem atP_find : ∀ (ps : List (List Nat)) (a : Nat), atP ps a < ps.length → (ps.map numI).findIdx? (fun zs => hasB zs (a : Int)) = some (atP ps a)
  | [], a, h => by simp at h
  | l :: r, a, h => by
    rw [List.map_cons, List.findIdx?_cons, numI_has]
    unfold atP at h ⊢
    cases hc : l.contains a with
    | true => simp
    | false =>
      rw [hc] at h
      simp only [Bool.false_eq_true, if_false, List.length_cons] at h ⊢
      rw [atP_find r a (by omega)]; rfl
theorem compAt_atP {ps : List (List Nat)} {a : Nat} (h : atP ps a < ps.length) : compAt (ps.map numI) (a : Int) = (atP ps a : Int) := by
  unfold compAt
  rw [atP_find ps a h]
theorem part_has {n : Nat} {W : Rel} {i a : Nat} (ha : a < n) : (partL n W i).contains a = inPart W i a := by
  rw [Bool.eq_iff_iff, List.contains_iff_mem]
  unfold partL
  rw [List.mem_filter]
  simp [ha]
theorem inPart_eq {n : Nat} {W : Rel} (L : Leads n W) (i : Nat) {a b : Nat} (h1 : W a b = true) (h2 : W b a = true) : inPart W i a = inPart W i b := by
  have := shut_next L (shut_none W) i a b h1 h2
  simpa [toldN] using this
theorem inPart_inv {W : Rel} {i a : Nat} (h : inPart W i a = true) : a = i ∨ (W i a = true ∧ W a i = true) := by
  unfold inPart at h
  rw [Bool.or_eq_true, decide_eq_true_eq, Bool.and_eq_true] at h
  exact h
theorem inPart_both {n : Nat} {W : Rel} (L : Leads n W) {i a b : Nat} (h1 : inPart W i a = true) (h2 : inPart W i b = true) : a = b ∨ (W a b = true ∧ W b a = true) := by
  rcases inPart_inv h1 with rfl | ⟨p, q⟩
  · rcases inPart_inv h2 with rfl | ⟨r, s⟩
    · exact .inl rfl
    · exact .inr ⟨r, s⟩
  · rcases inPart_inv h2 with rfl | ⟨r, s⟩
    · exact .inr ⟨q, p⟩
    · exact .inr ⟨L.trans a i b q r, L.trans b i a s p⟩
theorem comps_facts {n : Nat} {W : Rel} (L : Leads n W) : ∀ (f : Nat) (T : Nat → Bool), Shut W T → leftN n T < f →
    (∀ a, a < n → T a = false → atP (compsL n W f T) a < (compsL n W f T).length) ∧
    (∀ a b, a < n → b < n → T a = false → T b = false → (atP (compsL n W f T) a = atP (compsL n W f T) b ↔ (a = b ∨ (W a b = true ∧ W b a = true)))) ∧
    (∀ a b, a < n → b < n → T a = false → T b = false → W a b = true → W b a = false → ¬ atP (compsL n W f T) a < atP (compsL n W f T) b) ∧
    (∀ l ∈ compsL n W f T, ∃ i, i < n ∧ l = partL n W i) := by
  intro f
  induction f with
  | zero => intro T _ h; omega
  | succ f ih =>
    intro T hs hl
    by_cases h0 : leftN n T = 0
    · have hz := left_zero h0
      refine ⟨fun a ha hT => ?_, fun a b ha hb hT => ?_, fun a b ha hb hT => ?_, ?_⟩
      · rw [hz a ha] at hT; cases hT
      · rw [hz a ha] at hT; cases hT
      · rw [hz a ha] at hT; cases hT
      · rw [compsL_none _ (next_left h0)]
        intro l hl; cases hl
    · obtain ⟨x, hx, hrx⟩ := ready_some L (T := T) (by omega)
      have hsome : (nextI n W T).isSome = true := by
        unfold nextI
        rw [List.find?_isSome]
        exact ⟨x, by simpa using hx, hrx⟩
      obtain ⟨i, hi⟩ := Option.isSome_iff_exists.1 hsome
      obtain ⟨hin, hr⟩ := next_inv hi
      obtain ⟨hTi, hrd⟩ := ready_told hr
      have hpp := part_pos (n := n) (W := W) hin
      have hln := left_next (n := n) hs hTi
      obtain ⟨A, B, C, D⟩ := ih (toldN W T i) (shut_next L hs i) (by omega)
      rw [compsL_some f hi]
      have hat : ∀ a, a < n → atP (partL n W i :: compsL n W f (toldN W T i)) a = if inPart W i a = true then 0 else atP (compsL n W f (toldN W T i)) a + 1 := by
        intro a ha
        rw [atP, part_has ha]
      have hT2 : ∀ a, T a = false → inPart W i a = false → toldN W T i a = false := by
        intro a h1 h2
        unfold toldN; rw [h1, h2]; rfl
      refine ⟨fun a ha hT => ?_, fun a b ha hb hTa hTb => ?_, fun a b ha hb hTa hTb h1 h2 => ?_, fun l hl => ?_⟩
      · rw [hat a ha, List.length_cons]
        cases hp : inPart W i a with
        | true => simp
        | false =>
          have := A a ha (hT2 a hT hp)
          simp; omega
      · rw [hat a ha, hat b hb]
        cases hp : inPart W i a with
        | true =>
          cases hq : inPart W i b with
          | true => simpa using inPart_both L hp hq
          | false =>
            simp
            refine ⟨fun e => (by rw [e, hq] at hp; cases hp), fun h1 => ?_⟩
            cases h2 : W b a with
            | false => rfl
            | true => rw [inPart_eq L i h1 h2, hq] at hp; cases hp
        | false =>
          cases hq : inPart W i b with
          | true =>
            simp
            refine ⟨fun e => (by rw [e, hq] at hp; cases hp), fun h1 => ?_⟩
            cases h2 : W b a with
            | false => rfl
            | true => rw [inPart_eq L i h1 h2, hq] at hp; cases hp
          | false =>
            have := B a b ha hb (hT2 a hTa hp) (hT2 b hTb hq)
            simpa using this
      · rw [hat a ha, hat b hb]
        cases hq : inPart W i b with
        | true => simp
        | false =>
          cases hp : inPart W i a with
          | true =>
            exfalso
            have hj := hrd b hb
            unfold readyJ at hj
            have w1 : W i b = true := by
              rcases inPart_inv hp with rfl | ⟨p, q⟩
              · exact h1
              · exact L.trans i a b p h1
            have w2 : W b i = false := by
              cases h3 : W b i with
              | false => rfl
              | true =>
                rcases inPart_inv hp with rfl | ⟨p, q⟩
                · rw [h3] at h2; cases h2
                · rw [L.trans b i a h3 p] at h2; cases h2
            rw [w1, w2, hTb] at hj; cases hj
          | false =>
            have := C a b ha hb (hT2 a hTa hp) (hT2 b hTb hq) h1 h2
            simp; omega
      · rcases List.mem_cons.1 hl with rfl | hl
        · exact ⟨i, hin, rfl⟩
        · exact D l hl
/-- a part is in a ring where its first member is -/
theorem part_ring {n : Nat} {W : Rel} (L : Leads n W) {i x : Nat} (hx : x ∈ partL n W i) : (numI (partL n W i)).any (cycAt n W) = W x x := by
  have hin : ∀ y ∈ partL n W i, y < n ∧ inPart W i y = true := by
    intro y hy
    unfold partL at hy
    rw [List.mem_filter] at hy
    exact ⟨by simpa using hy.1, hy.2⟩
  have hc : ∀ y : Nat, y < n → cycAt n W (y : Int) = W y y := by
    intro y hy
    unfold cycAt
    rw [inB_yes (by omega) (by omega)]
    rfl
  rw [Bool.eq_iff_iff]
  unfold numI
  rw [List.any_map, List.any_eq_true]
  constructor
  · rintro ⟨y, hy, h⟩
    have hy2 := hin y hy
    have h' : W y y = true := by have := hc y hy2.1; simp only [Function.comp] at h; rw [← this]; exact h
    rcases inPart_both L hy2.2 (hin x hx).2 with rfl | ⟨p, q⟩
    · exact h'
    · exact L.trans x y x q p
  · intro h
    exact ⟨x, hx, by have := hc x (hin x hx).1; simp only [Function.comp]; rw [this]; exact h⟩
end Go.Proofs.Ytfnjllaaadhbbaa
