/- Several texts in one: PgMark, RdPgN, GrwPr. -/
import Derived.Test.YtdanlgmpgdipnaaDoorKd30
import Derived.Test.YtdanlgmpgdipnaaDoorKd34
import Derived.Test.YtdanlgmpgdipnaaDoorKd31
import Derived.Test.YtdanlgmpgdipnaaDoorKd38
import Derived.Test.YtdanlgmpgdipnaaDoorKd28
import Derived.Test.YtdanlgmpgdipnaaDoorKd26
import Derived.Test.YtdanlgmpgdipnaaDoorKd11
namespace Go.Proofs.YtdanlgmpgdipnaaDoor
open Go.RowKit
set_option linter.unusedVariables false


def pmarks : List Pr → Nat | [] => 0 | p :: r => 1 + smarkss p.body + pmarks r
theorem pmarks_append (l r : List Pr) : pmarks (l ++ r) = pmarks l + pmarks r := by
  induction l with
  | nil => simp [pmarks]
  | cons y t ih => rw [List.cons_append, pmarks, pmarks, ih]; omega
theorem pmarks_take (l : List Pr) (k : Nat) (h : k < l.length) : pmarks (l.take (k + 1)) = pmarks (l.take k) + (1 + smarkss l[k].body) := by
  have e : l.take (k + 1) = l.take k ++ [l[k]] := List.take_succ_eq_append_getElem h
  rw [e, pmarks_append]; simp [pmarks]
theorem pmarks_take_le (l : List Pr) (k : Nat) : pmarks (l.take k) ≤ pmarks l := by
  have e : pmarks l = pmarks (l.take k) + pmarks (l.drop k) := by rw [← pmarks_append, List.take_append_drop]
  omega
def markZ (p : Pg) : Nat := p.globals.length + p.locks.length + pmarks p.procs

def noPg : Pg := ⟨[], [], []⟩
/-- a text's program, and its fault -/
def readP (s : ByteArray) : Pg × Int × Int :=
  if (lexR s).2.1 = 0 then
    match rdG (lexR s).1 s.size with
    | .bad c p => (noPg, c, (p : Int))
    | .ok p q => (p, 0, 0)
  else (noPg, (lexR s).2.1, (lexR s).2.2)
theorem readP_lex {s : ByteArray} (h : ¬ (lexR s).2.1 = 0) : readP s = (noPg, (lexR s).2.1, (lexR s).2.2) := by unfold readP; rw [if_neg h]
theorem readP_at {s : ByteArray} (h : (lexR s).2.1 = 0) : readP s = match rdG (lexR s).1 s.size with
    | .bad c p => (noPg, c, (p : Int))
    | .ok p q => (p, 0, 0) := by unfold readP; rw [if_pos h]
section
variable {L : List Sg} {n r i : Nat} {acc : List ByteArray}
theorem nmR_full (h : nmB L i = true) : nmR L n 0 acc i = .bad 5 (posAt L n i) := by rw [nmR, if_pos h]
theorem nmR_none (h : nmB L i = false) : nmR L n r acc i = .bad 3 (posAt L n i) := by
  cases r with
  | zero => rw [nmR, if_neg (by rw [h]; decide)]
  | succ r => rw [nmR, if_neg (by rw [h]; decide)]
/-- behind a name -/
def resR (L : List Sg) (n r : Nat) (acc : List ByteArray) (i : Nat) : Got (List ByteArray) :=
  if tx L i = ⟨#[44]⟩ then nmR L n r acc (i + 1) else (tk L n ⟨#[59]⟩ i).bind fun _ q => .ok acc q
theorem nmR_name (h : nmB L i = true) : nmR L n (r + 1) acc i = resR L n r (acc ++ [tx L i]) (i + 1) := by rw [nmR, if_pos h]; rfl
theorem resR_comma (h : tx L i = ⟨#[44]⟩) : resR L n r acc i = nmR L n r acc (i + 1) := by unfold resR; rw [if_pos h]
theorem resR_end (h : tx L i = ⟨#[59]⟩) : resR L n r acc i = .ok acc (i + 1) := by
  unfold resR
  rw [if_neg (by rw [h]; decide), tk_ok h]; rfl
theorem resR_bad (h : ¬ tx L i = ⟨#[44]⟩) (h2 : ¬ tx L i = ⟨#[59]⟩) : resR L n r acc i = .bad 3 (posAt L n i) := by
  unfold resR
  rw [if_neg h, tk_bad h2]; rfl
end
theorem nmsG_bad {L : List Sg} {n most i : Nat} {word : ByteArray} (h : ¬ tx L i = word) : nmsG L n word most i = .bad 3 (posAt L n i) := by unfold nmsG; rw [tk_bad h]; rfl
theorem nmsG_none {L : List Sg} {n most i : Nat} {word : ByteArray} (h : tx L i = word) (h2 : tx L (i + 1) = ⟨#[59]⟩) : nmsG L n word most i = .ok [] (i + 1 + 1) := by unfold nmsG; rw [tk_ok h, bind_ok, if_pos h2]
theorem nmsG_some {L : List Sg} {n most i : Nat} {word : ByteArray} (h : tx L i = word) (h2 : ¬ tx L (i + 1) = ⟨#[59]⟩) : nmsG L n word most i = nmR L n most [] (i + 1) := by unfold nmsG; rw [tk_ok h, bind_ok, if_neg h2]
theorem nmR_ok (L : List Sg) (n r : Nat) : ∀ acc i l q, nmR L n r acc i = .ok l q → l.length ≤ acc.length + r ∧ i ≤ q ∧ q ≤ L.length := by
  induction r with
  | zero => intro acc i l q h; rw [nmR] at h; split at h <;> cases h
  | succ r ih =>
    intro acc i l q h
    rw [nmR] at h
    split at h
    · split at h
      · have := ih _ _ _ _ h
        simp only [List.length_append, List.length_cons, List.length_nil] at this
        omega
      · obtain ⟨_, q1, h1, h⟩ := bind_ok_inv h
        have h2 := tk_top (by decide) h1
        obtain ⟨_, rfl⟩ := tk_inv h1
        injection h with e1 e2
        subst e1 e2
        simp only [List.length_append, List.length_cons, List.length_nil]
        omega
    · cases h
theorem nmsG_ok {L : List Sg} {n most i q : Nat} {word : ByteArray} {l : List ByteArray} (h : nmsG L n word most i = .ok l q) : l.length ≤ most ∧ i ≤ q ∧ q ≤ L.length := by
  unfold nmsG at h
  obtain ⟨_, q1, h1, h⟩ := bind_ok_inv h
  obtain ⟨_, rfl⟩ := tk_inv h1
  split at h
  · next h2 =>
    injection h with e1 e2
    subst e1 e2
    rcases Nat.lt_or_ge (i + 1) L.length with h3 | h3
    · simp; omega
    · rw [tx_ge (by omega)] at h2; exact absurd h2 (by decide)
  · have := nmR_ok _ _ _ _ _ _ _ h
    simp only [List.length_nil] at this
    omega
section
variable {L : List Sg} {n r i : Nat} {acc : List Pr}
theorem procG_bad (h : ¬ tx L i = ⟨#[112, 114, 111, 99]⟩) : procG L n i = .bad 3 (posAt L n i) := by unfold procG; rw [tk_bad (s := tProc) h]; rfl
theorem procG_noname (h : tx L i = ⟨#[112, 114, 111, 99]⟩) (h2 : nmB L (i + 1) = false) : procG L n i = .bad 3 (posAt L n (i + 1)) := by unfold procG; rw [tk_ok (s := tProc) h, bind_ok, if_neg (by rw [h2]; decide)]
theorem procG_name (h : tx L i = ⟨#[112, 114, 111, 99]⟩) (h2 : nmB L (i + 1) = true) : procG L n i = (blkG L n (rdS L n 6) (i + 1 + 1) 60).bind fun b q => .ok ⟨tx L (i + 1), b.1⟩ q := by unfold procG; rw [tk_ok (s := tProc) h, bind_ok, if_pos h2]
theorem prR_end (h : ¬ i < L.length) : prR L n r acc i = .ok acc i := by
  cases r with
  | zero => rw [prR, if_neg h]
  | succ r => rw [prR, if_neg h]
theorem prR_full (h : i < L.length) (h2 : tx L i = ⟨#[112, 114, 111, 99]⟩) : prR L n 0 acc i = .bad 5 (posAt L n i) := by rw [prR, if_pos h, if_pos (show tx L i = tProc from h2)]
theorem prR_bad {c : Int} {p : Nat} (h : i < L.length) (h2 : procG L n i = .bad c p) (h3 : r = 0 → ¬ tx L i = ⟨#[112, 114, 111, 99]⟩) : prR L n r acc i = .bad c p := by
  cases r with
  | zero =>
    rw [prR, if_pos h, if_neg (show ¬ tx L i = tProc from h3 rfl)]
    rw [procG_bad (h3 rfl)] at h2
    exact congrArg (fun g => match g with | Got.bad c p => (Got.bad c p : Got (List Pr)) | Got.ok (a : Pr) q => Got.ok [a] q) h2
  | succ r => rw [prR, if_pos h, h2]; rfl
theorem prR_step {p : Pr} {q : Nat} (h : i < L.length) (h2 : procG L n i = .ok p q) : prR L n (r + 1) acc i = prR L n r (acc ++ [p]) q := by rw [prR, if_pos h, h2]; rfl
end
theorem procG_ok {L : List Sg} {n i q : Nat} {p : Pr} (h : procG L n i = .ok p q) : 1 + smarkss p.body + 5 * i ≤ 5 * q ∧ q ≤ L.length ∧ i < q := by
  unfold procG at h
  obtain ⟨_, q1, h1, h⟩ := bind_ok_inv h
  obtain ⟨_, rfl⟩ := tk_inv h1
  split at h
  · obtain ⟨b, q2, h2, h⟩ := bind_ok_inv h
    have m1 := blkG_marks (fun j l b q h => rdSs_marks _ _ _ _ _ _ _ _ h) h2
    have m2 := blkG_top h2
    injection h with e1 e2
    subst e1 e2
    show 1 + smarkss b.1 + 5 * i ≤ 5 * q2 ∧ _
    omega
  · cases h
theorem prR_ok (L : List Sg) (n r : Nat) : ∀ acc i l q, prR L n r acc i = .ok l q → pmarks l + 5 * i ≤ pmarks acc + 5 * q ∧ (q ≤ L.length ∨ q = i) := by
  induction r with
  | zero =>
    intro acc i l q h
    rw [prR] at h
    split at h
    · split at h <;> cases h
    · injection h with e1 e2; subst e1 e2; omega
  | succ r ih =>
    intro acc i l q h
    rw [prR] at h
    split at h
    · obtain ⟨p, q1, h1, h⟩ := bind_ok_inv h
      have h2 := procG_ok h1
      have h3 := ih _ _ _ _ h
      rw [pmarks_append] at h3
      have h4 : pmarks [p] = 1 + smarkss p.body + 0 := rfl
      omega
    · injection h with e1 e2; subst e1 e2; omega
theorem rdG_ok {L : List Sg} {n q : Nat} {p : Pg} (h : rdG L n = .ok p q) : markZ p ≤ 12 + 5 * L.length := by
  unfold rdG at h
  obtain ⟨g, i1, h1, h⟩ := bind_ok_inv h
  obtain ⟨l, i2, h2, h⟩ := bind_ok_inv h
  obtain ⟨ps, i3, h3, h⟩ := bind_ok_inv h
  have a1 := nmsG_ok h1
  have a2 := nmsG_ok h2
  have a3 := prR_ok _ _ _ _ _ _ _ h3
  injection h with e1 e2
  subst e1
  show g.length + l.length + pmarks ps ≤ _
  have h4 : pmarks [] = 0 := rfl
  omega
theorem readP_marks (s : ByteArray) : markZ (readP s).1 ≤ 40000 := by
  have hz : markZ noPg = 0 := rfl
  unfold readP
  split
  · next hf =>
    have hl := (lexR_ok hf).2.2
    split
    · rw [hz]; omega
    · next p q h => have := rdG_ok h; show markZ p ≤ 40000; omega
  · show markZ noPg ≤ 40000; rw [hz]; omega
/-- what is left of a program's reading -/
def pgL (L : List Sg) (n : Nat) (g : List ByteArray) (i : Nat) : Got Pg := (nmsG L n tLocks 6 i).bind fun l i2 => (prR L n 8 [] i2).bind fun ps q => .ok ⟨g, l, ps⟩ q
def pgP (g l : List ByteArray) (x : Got (List Pr)) : Got Pg := x.bind fun ps q => .ok ⟨g, l, ps⟩ q
theorem rdG_eq (L : List Sg) (n : Nat) : rdG L n = (nmsG L n tGlobals 6 0).bind fun g i => pgL L n g i := rfl
theorem pgL_eq (L : List Sg) (n : Nat) (g : List ByteArray) (i : Nat) : pgL L n g i = (nmsG L n tLocks 6 i).bind fun l i2 => pgP g l (prR L n 8 [] i2) := rfl

def PrO (w : World) (G : Nat → Prop) (x : V2) (p : Pr) : Prop := p.name = x.s ∧ x.m = p.body.length ∧ x.s.size ≤ maxLen ∧ p.body.length ≤ x.c ∧ x.c ≤ maxLen ∧ StRowO w G x.A p.body
theorem PrO.keep {w w' : World} {G : Nat → Prop} {x : V2} {p : Pr} (h : PrO w G x p) (hk : ∀ b, G b → w'.heap[b]? = w.heap[b]?) : PrO w' G x p := ⟨h.1, h.2.1, h.2.2.1, h.2.2.2.1, h.2.2.2.2.1, h.2.2.2.2.2.keep hk⟩
theorem PrO.sub {w : World} {G G' : Nat → Prop} {x : V2} {p : Pr} (h : PrO w G x p) (hG : ∀ b, G b → G' b) : PrO w G' x p := ⟨h.1, h.2.1, h.2.2.1, h.2.2.2.1, h.2.2.2.2.1, h.2.2.2.2.2.sub hG⟩
/-- v is a row of procedures in blocks from base on, each one's memory apart -/
def GrwP (base : Nat) (w : World) (v : Value) (l : List Pr) : Prop :=
  ∃ (xs : List V2) (G : Nat → Nat → Prop), xs.length = l.length ∧ OwnX base w 46 2 v l.length (xs.flatMap V2.cells) ∧ (∀ i b, i < l.length → G i b → base ≤ b ∧ b < w.heap.size ∧ v.ownBlock ≠ some b) ∧ (∀ i j b, i < l.length → j < l.length → i ≠ j → G i b → G j b → False) ∧ ∀ i (h : i < l.length) (h' : i < xs.length), PrO w (G i) xs[i] l[i]
theorem GrwP.slice {base : Nat} {w : World} {v : Value} {l : List Pr} (h : GrwP base w v l) : ∃ A c, v = .slice A l.length c ∧ l.length ≤ c ∧ c ≤ maxLen := by
  obtain ⟨xs, G, hl, ow, _⟩ := h
  obtain ⟨A, c, rfl, hc⟩ := own_slice ow.1
  exact ⟨A, c, rfl, hc, own_cap' ow.own⟩
theorem GrwP.nil {base : Nat} {w : World} (hb : base ≤ w.heap.size) : GrwP base w (.slice none 0 0) [] :=
  ⟨[], fun _ _ => False, rfl, ⟨World.ownsRow_nil _ _ _ _, hb⟩, fun i b h => absurd h (by simp), fun i j b h => absurd h (by simp), fun i h => absurd h (by simp)⟩
theorem GrwP.empty {base : Nat} {w : World} (hb : base ≤ w.heap.size) : GrwP base (w.alloc (.cells #[] 46)) (.slice (some ⟨w.heap.size, 0, none⟩) 0 0) [] :=
  ⟨[], fun _ _ => False, rfl, ⟨World.ownsRow_lit w #[] 0 hb (by simp [maxLen]) rfl, by simp; omega⟩, fun i b h => absurd h (by simp), fun i j b h => absurd h (by simp), fun i h => absurd h (by simp)⟩
theorem GrwP.keep {base : Nat} {w w' : World} {v : Value} {l : List Pr} {S : Nat → Prop} (h : GrwP base w v l) (hk : Keep S w w') (hS : ∀ b, base ≤ b → b < w.heap.size → S b) : GrwP base w' v l := by
  obtain ⟨xs, G, hl, ow, hG, hd, hx⟩ := h
  refine ⟨xs, G, hl, ow.keep hk (fun b hb => hS b (ow.lt b hb).1 (ow.lt b hb).2), fun i b hi hb => ?_, hd, fun i hi hi' => (hx i hi hi').keep fun b hb => ?_⟩
  · have := hG i b hi hb
    exact ⟨this.1, Nat.lt_of_lt_of_le this.2.1 hk.size, this.2.2⟩
  · have := hG i b hi hb
    exact hk.block b this.2.1 (hS b this.1 this.2.1)
theorem GrwP.below {base : Nat} {w w' : World} {v : Value} {l : List Pr} (h : GrwP base w v l) (hb : Below w.heap.size w w') : GrwP base w' v l := h.keep (Keep.of_below (S := fun _ => True) hb) (fun _ _ _ => trivial)
/-- one more, whose memory was made since -/
theorem grwp_app {base : Nat} {w0 w1 w2 : World} {v v' : Value} {l : List Pr} {xs : List V2} {G : Nat → Nat → Prop} {x : V2} {g : Pr} {S : Nat → Prop}
    (hl : xs.length = l.length) (ow : OwnX base w0 46 2 v l.length (xs.flatMap V2.cells)) (hG : ∀ i b, i < l.length → G i b → base ≤ b ∧ b < w0.heap.size ∧ v.ownBlock ≠ some b) (hd : ∀ i j b, i < l.length → j < l.length → i ≠ j → G i b → G j b → False) (hx : ∀ i (h : i < l.length) (h' : i < xs.length), PrO w0 (G i) xs[i] l[i])
    (hk : Keep S w0 w1) (hS : ∀ b, base ≤ b → b < w0.heap.size → S b) (ht : PrO w1 (Made w0 w1) x g) (own3 : Own (cutX base w1) w2 46 2 v' (l.length + 1) (xs.flatMap V2.cells ++ x.cells)) (gr : Grew v v' w1 w2) : GrwP base w2 v' (l ++ [g]) := by
  have h01 := hk.size
  have h12 := gr.keep.size
  have hb0 := ow.2
  have hlt := ow.lt
  have key : ∀ b, b < w1.heap.size → v.ownBlock ≠ some b → v'.ownBlock ≠ some b := by
    intro b hb hv e
    rcases gr.lies with h1 | ⟨q, h1, h2⟩
    · exact hv (h1 ▸ e)
    · rw [h1] at e; injection e with e; omega
  have hn : ∀ b, w0.heap.size ≤ b → v.ownBlock ≠ some b := fun b hb e => by have := hlt b e; omega
  have hlen : (l ++ [g]).length = l.length + 1 := by simp
  refine ⟨xs ++ [x], fun i b => if i < l.length then G i b else Made w0 w1 b, by simp [hl], ?_, fun i b hi hb => ?_, fun i j b hi hj hne h1 h2 => ?_, fun i hi hi' => ?_⟩
  · rw [hlen, List.flatMap_append]
    have e1 : [x].flatMap V2.cells = x.cells := by simp
    rw [e1]
    exact OwnX.of (by omega) own3
  · by_cases e : i < l.length
    · simp only [e, if_true] at hb
      have := hG i b e hb
      exact ⟨this.1, by omega, key b (by omega) this.2.2⟩
    · simp only [e, if_false] at hb
      have h1 := hb.1
      have h2 := hb.2
      exact ⟨by omega, by omega, key b h2 (hn b h1)⟩
  · rw [hlen] at hi hj
    by_cases e : i < l.length
    · by_cases e' : j < l.length
      · simp only [e, e', if_true] at h1 h2; exact hd i j b e e' hne h1 h2
      · simp only [e, e', if_true, if_false] at h1 h2; have := hG i b e h1; have := h2.1; omega
    · by_cases e' : j < l.length
      · simp only [e, e', if_true, if_false] at h1 h2; have := hG j b e' h2; have := h1.1; omega
      · omega
  · rw [hlen] at hi
    by_cases e : i < l.length
    · have e2 : i < xs.length := by omega
      simp only [e, if_true]
      rw [List.getElem_append_left e2, List.getElem_append_left e]
      have hb := fun b hb => hG i b e hb
      exact ((hx i e e2).keep fun b q => hk.block b (hb b q).2.1 (hS b (hb b q).1 (hb b q).2.1)).keep fun b q => gr.keep.block b (by have := (hb b q).2.1; omega) (hb b q).2.2
    · have e2 : i = l.length := by omega
      subst e2
      simp only [Nat.lt_irrefl, if_false]
      have e3 : (xs ++ [x])[l.length] = x := by simp [← hl]
      have e4 : (l ++ [g])[l.length] = g := by simp
      rw [e3, e4]
      exact ht.keep fun b q => gr.keep.block b q.2 (hn b q.1)
theorem GrwP.row {base : Nat} {w : World} {A : Option Addr} {c : Nat} {l : List Pr} (h : GrwP base w (.slice A l.length c) l) : PrRowO w (fun b => base ≤ b ∧ b < w.heap.size) A l := by
  obtain ⟨xs, G, hl, ow, hG, hd, hx⟩ := h
  refine ⟨_, G, ⟨ow.own.rd, fun hn => ?_, fun i b hi hb => ⟨(hG i b hi hb).1, (hG i b hi hb).2.1⟩, hd⟩, fun i h => ⟨xs[i], flat_chunk V2.cells 2 v2_len xs i (by omega), hx i h (by omega)⟩⟩
  rcases ow.1.2 with ⟨h, _⟩ | ⟨g, cap, cur, h, hb, hg, _⟩
  · injection h with _ h2; omega
  · injection h with h1 h2
    subst h1
    exact ⟨g, 0, cur, _, rfl, ⟨hb, lt_of_block hg⟩, hg, fun i hi hb => (hG i g hi hb).2.2 rfl⟩
/-- v is a row of names in a block from base on -/
def GrwS (base : Nat) (w : World) (v : Value) (l : List ByteArray) : Prop := OwnX base w 9 1 v l.length (l.map Value.string) ∧ ∀ s ∈ l, s.size ≤ maxLen
theorem GrwS.slice {base : Nat} {w : World} {v : Value} {l : List ByteArray} (h : GrwS base w v l) : ∃ A c, v = .slice A l.length c ∧ l.length ≤ c ∧ c ≤ maxLen := by
  obtain ⟨A, c, rfl, hc⟩ := own_slice h.1.1
  exact ⟨A, c, rfl, hc, own_cap' h.1.own⟩
theorem GrwS.nil {base : Nat} {w : World} (hb : base ≤ w.heap.size) : GrwS base w (.slice none 0 0) [] := ⟨⟨World.ownsRow_nil _ _ _ _, hb⟩, fun s h => absurd h (by simp)⟩
theorem GrwS.empty {base : Nat} {w : World} (hb : base ≤ w.heap.size) : GrwS base (w.alloc (.cells #[] 9)) (.slice (some ⟨w.heap.size, 0, none⟩) 0 0) [] := ⟨⟨World.ownsRow_lit w #[] 0 hb (by simp [maxLen]) rfl, by simp; omega⟩, fun s h => absurd h (by simp)⟩
theorem GrwS.keep {base : Nat} {w w' : World} {v : Value} {l : List ByteArray} {S : Nat → Prop} (h : GrwS base w v l) (hk : Keep S w w') (hS : ∀ b, base ≤ b → b < w.heap.size → S b) : GrwS base w' v l := ⟨h.1.keep hk (fun b hb => hS b (h.1.lt b hb).1 (h.1.lt b hb).2), h.2⟩
theorem GrwS.below {base : Nat} {w w' : World} {v : Value} {l : List ByteArray} (h : GrwS base w v l) (hb : Below w.heap.size w w') : GrwS base w' v l := h.keep (Keep.of_below (S := fun _ => True) hb) (fun _ _ _ => trivial)
theorem GrwS.app {base : Nat} {w1 w2 : World} {v v' : Value} {l : List ByteArray} {x : ByteArray} (h : GrwS base w1 v l) (hx : x.size ≤ maxLen) (own3 : Own (cutX base w1) w2 9 1 v' (l.length + 1) (l.map Value.string ++ [.string x])) : GrwS base w2 v' (l ++ [x]) := by
  refine ⟨?_, fun s hs => ?_⟩
  · rw [List.length_append, List.map_append]
    exact OwnX.of h.1.2 own3
  · rcases List.mem_append.1 hs with h1 | h1
    · exact h.2 s h1
    · rw [List.mem_singleton.1 h1]; exact hx
theorem GrwS.row {base : Nat} {w : World} {A : Option Addr} {c : Nat} {l : List ByteArray} (h : GrwS base w (.slice A l.length c) l) : StrRowO w (fun b => base ≤ b ∧ b < w.heap.size) A l :=
  RowOf.subR (OwnStrs.rowO (w0 := cutX base w) h.1.own h.2) (fun b hb => ⟨by have := hb.1; rw [cutX_size h.1.2] at this; exact this, hb.2⟩)
end Go.Proofs.YtdanlgmpgdipnaaDoor
