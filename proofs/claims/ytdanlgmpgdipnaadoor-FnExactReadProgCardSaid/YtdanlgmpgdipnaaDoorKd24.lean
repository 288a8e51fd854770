/- Several texts in one: Stmts, RdSp, StmtSz. -/
import Derived.Test.YtdanlgmpgdipnaaDoorKd5
import Derived.Test.YtdanlgmpgdipnaaDoorKd9
namespace Go.Proofs.YtdanlgmpgdipnaaDoor
open Go.RowKit
set_option linter.unusedVariables false


inductive St where
  | mk (kind : Int) (name : ByteArray) (term : Tm) (body els : List St)
mutual
/-- how many statements it is, itself too -/
def snodes : St → Nat | .mk _ _ _ b e => 1 + snodess b + snodess e
def snodess : List St → Nat | [] => 0 | t :: r => snodes t + snodess r
end
theorem snodess_le {l : List St} {x : St} (h : x ∈ l) : snodes x ≤ snodess l := by
  induction l with
  | nil => cases h
  | cons y r ih =>
    rw [snodess]
    rcases List.mem_cons.1 h with rfl | h
    · omega
    · have := ih h; omega
theorem body_lt {k : Int} {s : ByteArray} {t : Tm} {b e : List St} {x : St} (h : x ∈ b) : snodes x < snodes (St.mk k s t b e) := by
  have := snodess_le h
  rw [snodes]
  omega
theorem else_lt {k : Int} {s : ByteArray} {t : Tm} {b e : List St} {x : St} (h : x ∈ e) : snodes x < snodes (St.mk k s t b e) := by
  have := snodess_le h
  rw [snodes]
  omega
/-- the eight cells of a statement, by name -/
structure V8 where
  k : Int
  s : ByteArray
  tk : Int
  tn : Int
  ts : ByteArray
  tA : Option Addr
  tm : Nat
  tc : Nat
  bA : Option Addr
  bm : Nat
  bc : Nat
  eA : Option Addr
  em : Nat
  ec : Nat
def V8.cells (x : V8) : List Value := [.int .i64 x.k, .string x.s, .int .i64 x.tk, .int .i64 x.tn, .string x.ts, .slice x.tA x.tm x.tc, .slice x.bA x.bm x.bc, .slice x.eA x.em x.ec]
def V8.term (x : V8) : List Value := [.int .i64 x.tk, .int .i64 x.tn, .string x.ts, .slice x.tA x.tm x.tc]
def V8.val (x : V8) : Value := .agg #[.int .i64 x.k, .string x.s, .int .i64 x.tk, .int .i64 x.tn, .string x.ts, .slice x.tA x.tm x.tc, .slice x.bA x.bm x.bc, .slice x.eA x.em x.ec]
/-- the eight cells of a statement; F is asked of each block in which kids or statements lie -/
inductive StIs (F : Nat → Prop) (w : World) : V8 → St → Prop
  | mk (x : V8) (t : Tm) (xb : List V8) (body : List St) (xe : List V8) (els : List St) (hk : i64in x.k) (hs : x.s.size ≤ maxLen) (ht : TmIs F w x.term t)
      (hb1 : x.bm = body.length) (hb2 : body.length ≤ x.bc) (hb3 : x.bc ≤ maxLen) (hb4 : xb.length = body.length) (rdb : Rd w 8 x.bA xb.length (xb.flatMap V8.cells)) (hFb : ∀ b off, x.bA = some ⟨b, off, none⟩ → 0 < body.length → F b) (hxb : ∀ i (h : i < body.length) (h' : i < xb.length), StIs F w xb[i] body[i])
      (he1 : x.em = els.length) (he2 : els.length ≤ x.ec) (he3 : x.ec ≤ maxLen) (he4 : xe.length = els.length) (rde : Rd w 8 x.eA xe.length (xe.flatMap V8.cells)) (hFe : ∀ b off, x.eA = some ⟨b, off, none⟩ → 0 < els.length → F b) (hxe : ∀ i (h : i < els.length) (h' : i < xe.length), StIs F w xe[i] els[i]) :
      StIs F w x (.mk x.k x.s t body els)
/-- a row of statements -/
def StRow (F : Nat → Prop) (w : World) (A : Option Addr) (l : List St) : Prop :=
  ∃ xs : List V8, xs.length = l.length ∧ Rd w 8 A xs.length (xs.flatMap V8.cells) ∧ (∀ b off, A = some ⟨b, off, none⟩ → 0 < l.length → F b) ∧ ∀ i (h : i < l.length) (h' : i < xs.length), StIs F w xs[i] l[i]
theorem StIs.inv {F : Nat → Prop} {w : World} {x : V8} {g : St} (h : StIs F w x g) :
    ∃ t body els, g = .mk x.k x.s t body els ∧ i64in x.k ∧ x.s.size ≤ maxLen ∧ TmIs F w x.term t ∧ x.bm = body.length ∧ body.length ≤ x.bc ∧ x.bc ≤ maxLen ∧ StRow F w x.bA body ∧ x.em = els.length ∧ els.length ≤ x.ec ∧ x.ec ≤ maxLen ∧ StRow F w x.eA els := by
  cases h with
  | mk x t xb body xe els hk hs ht hb1 hb2 hb3 hb4 rdb hFb hxb he1 he2 he3 he4 rde hFe hxe =>
    exact ⟨t, body, els, rfl, hk, hs, ht, hb1, hb2, hb3, ⟨xb, hb4, rdb, hFb, hxb⟩, he1, he2, he3, ⟨xe, he4, rde, hFe, hxe⟩⟩
theorem StIs.mk' {F : Nat → Prop} {w : World} {x : V8} {t : Tm} {body els : List St} (hk : i64in x.k) (hs : x.s.size ≤ maxLen) (ht : TmIs F w x.term t) (hb1 : x.bm = body.length) (hb2 : body.length ≤ x.bc) (hb3 : x.bc ≤ maxLen) (rb : StRow F w x.bA body)
    (he1 : x.em = els.length) (he2 : els.length ≤ x.ec) (he3 : x.ec ≤ maxLen) (re : StRow F w x.eA els) : StIs F w x (.mk x.k x.s t body els) := by
  obtain ⟨xb, hb4, rdb, hFb, hxb⟩ := rb
  obtain ⟨xe, he4, rde, hFe, hxe⟩ := re
  exact .mk x t xb body xe els hk hs ht hb1 hb2 hb3 hb4 rdb hFb hxb he1 he2 he3 he4 rde hFe hxe
theorem rd_keepF {F F' : Nat → Prop} {w w' : World} {sz n : Nat} {A : Option Addr} {cs : List Value} (hsz : 0 < sz) (rd : Rd w sz A n cs) (hf : ∀ b off, A = some ⟨b, off, none⟩ → 0 < n → F b) (hk : ∀ p : Addr, p.block < w.heap.size → F p.block → w'.cell? p = w.cell? p) (hF : ∀ b, b < w.heap.size → F b → F' b) :
    Rd w' sz A n cs ∧ ∀ b off, A = some ⟨b, off, none⟩ → 0 < n → F' b := by
  refine ⟨⟨rd.1, fun hn => ?_⟩, fun b off e hn => ?_⟩
  · obtain ⟨b, off, e, hcell⟩ := rd.2 hn
    exact ⟨b, off, e, fun j u hu => (hk _ (cell_lt (hcell j u hu)) (hf b off e hn)).trans (hcell j u hu)⟩
  · obtain ⟨b', off', e', hcell⟩ := rd.2 hn
    rw [e'] at e
    injection e with e
    injection e with e1 e2
    subst e1 e2
    refine hF _ ?_ (hf _ _ e' hn)
    have h0 : 0 < cs.length := by rw [rd.1]; exact Nat.mul_pos hn hsz
    exact cell_lt (hcell 0 _ (List.getElem?_eq_getElem h0))
theorem StIs.keep {F F' : Nat → Prop} {w w' : World} {x : V8} {g : St} (h : StIs F w x g) (hk : ∀ p : Addr, p.block < w.heap.size → F p.block → w'.cell? p = w.cell? p) (hF : ∀ b, b < w.heap.size → F b → F' b) : StIs F' w' x g := by
  induction h with
  | mk x t xb body xe els h1 h2 ht hb1 hb2 hb3 hb4 rdb hFb hxb he1 he2 he3 he4 rde hFe hxe ihb ihe =>
    obtain ⟨q1, q2⟩ := rd_keepF (by decide) rdb (fun b off e hn => hFb b off e (by omega)) hk hF
    obtain ⟨q3, q4⟩ := rd_keepF (by decide) rde (fun b off e hn => hFe b off e (by omega)) hk hF
    exact .mk x t xb body xe els h1 h2 (ht.keep hk hF) hb1 hb2 hb3 hb4 q1 (fun b off e hn => q2 b off e (by omega)) ihb he1 he2 he3 he4 q3 (fun b off e hn => q4 b off e (by omega)) ihe
theorem StRow.keep {F F' : Nat → Prop} {w w' : World} {A : Option Addr} {l : List St} (h : StRow F w A l) (hk : ∀ p : Addr, p.block < w.heap.size → F p.block → w'.cell? p = w.cell? p) (hF : ∀ b, b < w.heap.size → F b → F' b) : StRow F' w' A l := by
  obtain ⟨xs, hl, rd, hf, hx⟩ := h
  obtain ⟨q1, q2⟩ := rd_keepF (by decide) rd (fun b off e hn => hf b off e (by omega)) hk hF
  exact ⟨xs, hl, q1, fun b off e hn => q2 b off e (by omega), fun i h h' => (hx i h h').keep hk hF⟩
theorem StIs.any {F : Nat → Prop} {w : World} {x : V8} {g : St} (h : StIs F w x g) : StIs AnyB w x g := h.keep (fun _ _ _ => rfl) (fun _ _ _ => trivial)
theorem StRow.any {F : Nat → Prop} {w : World} {A : Option Addr} {l : List St} (h : StRow F w A l) : StRow AnyB w A l := h.keep (fun _ _ _ => rfl) (fun _ _ _ => trivial)
theorem StIs.belowA {w w' : World} {x : V8} {g : St} (h : StIs AnyB w x g) (hb : Below w.heap.size w w') : StIs AnyB w' x g := h.keep (fun _ hp _ => hb.cell hp) (fun _ _ _ => trivial)
theorem StRow.belowA {w w' : World} {A : Option Addr} {l : List St} (h : StRow AnyB w A l) (hb : Below w.heap.size w w') : StRow AnyB w' A l := h.keep (fun _ hp _ => hb.cell hp) (fun _ _ _ => trivial)
theorem StIs.drew {w : World} {x : V8} {g : St} (h : StIs AnyB w x g) : StIs AnyB w.drew x g := h.belowA (Below.refl _ _).drew
theorem StRow.drew {w : World} {A : Option Addr} {l : List St} (h : StRow AnyB w A l) : StRow AnyB w.drew A l := h.belowA (Below.refl _ _).drew
theorem StIs.mono {lo lo' : Nat} {w : World} {x : V8} {g : St} (h : StIs (Fr lo w) w x g) (hl : lo' ≤ lo) : StIs (Fr lo' w) w x g := h.keep (fun _ _ _ => rfl) (fun b _ ⟨h1, h2⟩ => ⟨by omega, h2⟩)
theorem StRow.mono {lo lo' : Nat} {w : World} {A : Option Addr} {l : List St} (h : StRow (Fr lo w) w A l) (hl : lo' ≤ lo) : StRow (Fr lo' w) w A l := h.keep (fun _ _ _ => rfl) (fun b _ ⟨h1, h2⟩ => ⟨by omega, h2⟩)
theorem v8_len (x : V8) : x.cells.length = 8 := rfl
/-- the cells of element k of a row -/
theorem rd_stmt {F : Nat → Prop} {w : World} {A : Option Addr} {l : List St} (row : StRow F w A l) {k : Nat} (hk : k < l.length) :
    ∃ b off x, A = some ⟨b, off, none⟩ ∧ F b ∧ (w.cell? ⟨b, off + k * 8, none⟩ = some (.int .i64 x.k) ∧ w.cell? ⟨b, off + k * 8 + 1, none⟩ = some (.string x.s) ∧ w.cell? ⟨b, off + k * 8 + 2, none⟩ = some (.int .i64 x.tk) ∧ w.cell? ⟨b, off + k * 8 + 3, none⟩ = some (.int .i64 x.tn) ∧ w.cell? ⟨b, off + k * 8 + 4, none⟩ = some (.string x.ts) ∧ w.cell? ⟨b, off + k * 8 + 5, none⟩ = some (.slice x.tA x.tm x.tc) ∧ w.cell? ⟨b, off + k * 8 + 6, none⟩ = some (.slice x.bA x.bm x.bc) ∧ w.cell? ⟨b, off + k * 8 + 7, none⟩ = some (.slice x.eA x.em x.ec)) ∧ StIs F w x l[k] := by
  obtain ⟨xs, hl, rd, hF, hx⟩ := row
  have hk' : k < xs.length := by omega
  obtain ⟨b, off, e, hc⟩ := rd_flat v8_len rd hk'
  refine ⟨b, off, xs[k], e, hF b off e (by omega), ⟨?_, ?_, ?_, ?_, ?_, ?_, ?_, ?_⟩, hx k hk hk'⟩
  · exact hc 0 _ (by decide) rfl
  · exact hc 1 _ (by decide) rfl
  · exact hc 2 _ (by decide) rfl
  · exact hc 3 _ (by decide) rfl
  · exact hc 4 _ (by decide) rfl
  · exact hc 5 _ (by decide) rfl
  · exact hc 6 _ (by decide) rfl
  · exact hc 7 _ (by decide) rfl
noncomputable def sameG (a b : St) : Bool := @decide (a = b) (Classical.propDecidable _)
theorem sameG_yes {a b : St} (h : a = b) : sameG a b = true := by unfold sameG; exact @decide_eq_true _ (Classical.propDecidable _) h
theorem sameG_no {a b : St} (h : a ≠ b) : sameG a b = false := by unfold sameG; exact @decide_eq_false _ (Classical.propDecidable _) h
noncomputable def samesG (a b : List St) : Bool := @decide (a = b) (Classical.propDecidable _)
theorem samesG_yes {a b : List St} (h : a = b) : samesG a b = true := by unfold samesG; exact @decide_eq_true _ (Classical.propDecidable _) h
theorem samesG_no {a b : List St} (h : a ≠ b) : samesG a b = false := by unfold samesG; exact @decide_eq_false _ (Classical.propDecidable _) h
theorem sameG_true {a b : St} (h : sameG a b = true) : a = b := Classical.byContradiction fun hn => by rw [sameG_no hn] at h; cases h
theorem sameG_false {a b : St} (h : sameG a b = false) : a ≠ b := fun e => by rw [sameG_yes e] at h; cases h

def Got.bind {α β : Type} (g : Got α) (f : α → Nat → Got β) : Got β := match g with | .bad c p => .bad c p | .ok a i => f a i
theorem bind_ok {α β : Type} {a : α} {i : Nat} {f : α → Nat → Got β} : (Got.ok a i).bind f = f a i := rfl
theorem bind_ok_inv {α β : Type} {g : Got α} {f : α → Nat → Got β} {b : β} {j : Nat} (h : g.bind f = .ok b j) : ∃ a i, g = .ok a i ∧ f a i = .ok b j := by
  cases g with
  | bad c p => cases h
  | ok a i => exact ⟨a, i, rfl, h⟩
theorem bind_congr {α β : Type} {g : Got α} {f f' : α → Nat → Got β} (h : ∀ a i, g = .ok a i → f a i = f' a i) : g.bind f = g.bind f' := by
  cases g with
  | bad c p => rfl
  | ok a i => exact h a i rfl
def tk (L : List Sg) (n : Nat) (s : ByteArray) (i : Nat) : Got Unit := if tx L i = s then .ok () (i + 1) else .bad 3 (posAt L n i)
theorem tk_ok {L : List Sg} {n i : Nat} {s : ByteArray} (h : tx L i = s) : tk L n s i = .ok () (i + 1) := by unfold tk; rw [if_pos h]
theorem tk_bad {L : List Sg} {n i : Nat} {s : ByteArray} (h : ¬ tx L i = s) : tk L n s i = .bad 3 (posAt L n i) := by unfold tk; rw [if_neg h]
theorem tk_inv {L : List Sg} {n i j : Nat} {s : ByteArray} {u : Unit} (h : tk L n s i = .ok u j) : tx L i = s ∧ j = i + 1 := by
  unfold tk at h
  split at h
  · next h1 => injection h with _ h; exact ⟨h1, h.symm⟩
  · cases h
def tIf : ByteArray := ⟨#[105, 102]⟩
def tWhile : ByteArray := ⟨#[119, 104, 105, 108, 101]⟩
def tCall : ByteArray := ⟨#[99, 97, 108, 108]⟩
def tSpawn : ByteArray := ⟨#[115, 112, 97, 119, 110]⟩
def tLock : ByteArray := ⟨#[108, 111, 99, 107]⟩
def tUnlock : ByteArray := ⟨#[117, 110, 108, 111, 99, 107]⟩
def tSkip : ByteArray := ⟨#[115, 107, 105, 112]⟩
def tElse : ByteArray := ⟨#[101, 108, 115, 101]⟩
def wordOf (L : List Sg) (i : Nat) : Int := if tx L i = tIf then 2 else if tx L i = tWhile then 3 else if tx L i = tCall then 4 else if tx L i = tSpawn then 5 else if tx L i = tLock then 6 else if tx L i = tUnlock then 7 else if tx L i = tSkip then 8 else if nmB L i = true then 1 else 0
theorem wordOf_lt {L : List Sg} {i : Nat} (h : ¬ wordOf L i = 0) : i < L.length := by
  rcases Nat.lt_or_ge i L.length with h1 | h1
  · exact h1
  · exfalso
    apply h
    unfold wordOf
    rw [tx_ge (by omega), nmB_ge (by omega)]
    decide
/-- "{", statements, "}" -/
def blkG (L : List Sg) (n : Nat) (rec : Nat → Nat → Got (List St × Nat)) (i left : Nat) : Got (List St × Nat) :=
  (tk L n ⟨#[123]⟩ i).bind fun _ i1 => (rec i1 left).bind fun b i2 => (tk L n ⟨#[125]⟩ i2).bind fun _ i3 => .ok b i3
def elsG (L : List Sg) (n : Nat) (rec : Nat → Nat → Got (List St × Nat)) (i left : Nat) : Got (List St × Nat) :=
  if tx L i = ⟨#[123]⟩ ∧ wordOf L (i + 1) = 0 then .bad 3 (posAt L n (i + 1)) else blkG L n rec i left
def nesG (L : List Sg) (n : Nat) (rec : Nat → Nat → Got (List St × Nat)) (k : Int) (i left : Nat) : Got (St × Nat) :=
  (rdT L n 6 (i + 1)).bind fun t i1 => (blkG L n rec i1 left).bind fun b i2 =>
    if k = 3 ∨ ¬ tx L i2 = tElse then .ok (.mk k ⟨#[]⟩ t b.1 [], b.2) i2
    else (elsG L n rec (i2 + 1) b.2).bind fun e i3 => .ok (.mk k ⟨#[]⟩ t b.1 e.1, e.2) i3
def zTm : Tm := .mk 0 0 ⟨#[]⟩ []
def oneG (L : List Sg) (n : Nat) (rec : Nat → Nat → Got (List St × Nat)) (k : Int) (i left : Nat) : Got (St × Nat) :=
  if k = 2 ∨ k = 3 then nesG L n rec k i left
  else if k = 1 then (tk L n ⟨#[61]⟩ (i + 1)).bind fun _ i1 => (rdT L n 6 i1).bind fun t i2 => (tk L n ⟨#[59]⟩ i2).bind fun _ i3 => .ok (.mk 1 (tx L i) t [] [], left) i3
  else if k = 8 then (tk L n ⟨#[59]⟩ (i + 1)).bind fun _ i1 => .ok (.mk 8 ⟨#[]⟩ zTm [] [], left) i1
  else if nmB L (i + 1) = true then (tk L n ⟨#[59]⟩ (i + 2)).bind fun _ i1 => .ok (.mk k (tx L (i + 1)) zTm [] [], left) i1
  else .bad 3 (posAt L n (i + 1))
def stepG (L : List Sg) (n : Nat) (rec1 : Nat → Nat → Got (List St × Nat)) (rec0 : Nat → Nat → Got (List St × Nat)) (room i left : Nat) : Got (List St × Nat) :=
  if wordOf L i = 0 then .ok ([], left) i
  else if (wordOf L i = 2 ∨ wordOf L i = 3) ∧ room = 0 then .bad 4 (posAt L n i)
  else if left = 0 then .bad 5 (posAt L n i)
  else (oneG L n rec1 (wordOf L i) i (left - 1)).bind fun g q => (rec0 q g.2).bind fun r q2 => .ok (g.1 :: r.1, r.2) q2
def rdSs (L : List Sg) (n : Nat) : Nat → Nat → Nat → Nat → Got (List St × Nat)
  | 0, room, i, left => .ok ([], left) i
  | f + 1, room, i, left => stepG L n (rdSs L n f (room - 1)) (rdSs L n f room) room i left
def rdS (L : List Sg) (n : Nat) (room i left : Nat) : Got (List St × Nat) := rdSs L n (L.length + 1 - i) room i left
theorem blkG_congr {L : List Sg} {n : Nat} {rec rec' : Nat → Nat → Got (List St × Nat)} {i0 i left : Nat} (hi : i0 ≤ i) (h : ∀ j l, i0 < j → rec j l = rec' j l) : blkG L n rec i left = blkG L n rec' i left := by
  unfold blkG
  refine bind_congr fun _ i1 h1 => ?_
  obtain ⟨_, rfl⟩ := tk_inv h1
  rw [h _ _ (by omega)]
theorem blkG_lt {L : List Sg} {n : Nat} {rec : Nat → Nat → Got (List St × Nat)} {i left q : Nat} {b : List St × Nat} (hr : ∀ j l b q, i < j → rec j l = .ok b q → j ≤ q) (h : blkG L n rec i left = .ok b q) : i + 2 ≤ q := by
  unfold blkG at h
  obtain ⟨_, i1, h1, h⟩ := bind_ok_inv h
  obtain ⟨_, rfl⟩ := tk_inv h1
  obtain ⟨b', i2, h2, h⟩ := bind_ok_inv h
  have := hr _ _ _ _ (by omega) h2
  obtain ⟨_, i3, h3, h⟩ := bind_ok_inv h
  obtain ⟨_, rfl⟩ := tk_inv h3
  injection h with _ h
  omega
theorem elsG_congr {L : List Sg} {n : Nat} {rec rec' : Nat → Nat → Got (List St × Nat)} {i0 i left : Nat} (hi : i0 ≤ i) (h : ∀ j l, i0 < j → rec j l = rec' j l) : elsG L n rec i left = elsG L n rec' i left := by
  unfold elsG
  rw [blkG_congr hi h]
theorem elsG_lt {L : List Sg} {n : Nat} {rec : Nat → Nat → Got (List St × Nat)} {i left q : Nat} {b : List St × Nat} (hr : ∀ j l b q, i < j → rec j l = .ok b q → j ≤ q) (h : elsG L n rec i left = .ok b q) : i + 2 ≤ q := by
  unfold elsG at h
  split at h
  · cases h
  · exact blkG_lt hr h
theorem oneG_congr {L : List Sg} {n : Nat} {rec rec' : Nat → Nat → Got (List St × Nat)} {k : Int} {i left : Nat} (hr : ∀ j l b q, i < j → rec j l = .ok b q → j ≤ q) (h : ∀ j l, i < j → rec j l = rec' j l) : oneG L n rec k i left = oneG L n rec' k i left := by
  unfold oneG
  split
  · unfold nesG
    refine bind_congr fun t i1 h1 => ?_
    have := rdT_lt _ _ _ _ _ _ h1
    rw [blkG_congr (i0 := i) (by omega) h]
    refine bind_congr fun b i2 h2 => ?_
    rw [← blkG_congr (i0 := i) (by omega) h] at h2
    have := blkG_lt (fun j l b q hj => hr j l b q (by omega)) h2
    split
    · rfl
    · rw [elsG_congr (i0 := i) (by omega) h]
  · rfl
theorem oneG_lt {L : List Sg} {n : Nat} {rec : Nat → Nat → Got (List St × Nat)} {k : Int} {i left q : Nat} {b : St × Nat} (hr : ∀ j l b q, i < j → rec j l = .ok b q → j ≤ q) (h : oneG L n rec k i left = .ok b q) : i < q := by
  unfold oneG at h
  split at h
  · unfold nesG at h
    obtain ⟨t, i1, h1, h⟩ := bind_ok_inv h
    have := rdT_lt _ _ _ _ _ _ h1
    obtain ⟨b1, i2, h2, h⟩ := bind_ok_inv h
    have := blkG_lt (fun j l b q hj => hr j l b q (by omega)) h2
    split at h
    · injection h with _ h; omega
    · obtain ⟨e, i3, h3, h⟩ := bind_ok_inv h
      have := elsG_lt (fun j l b q hj => hr j l b q (by omega)) h3
      injection h with _ h
      omega
  split at h
  · obtain ⟨_, i1, h1, h⟩ := bind_ok_inv h
    obtain ⟨_, rfl⟩ := tk_inv h1
    obtain ⟨t, i2, h2, h⟩ := bind_ok_inv h
    have := rdT_lt _ _ _ _ _ _ h2
    obtain ⟨_, i3, h3, h⟩ := bind_ok_inv h
    obtain ⟨_, rfl⟩ := tk_inv h3
    injection h with _ h
    omega
  split at h
  · obtain ⟨_, i1, h1, h⟩ := bind_ok_inv h
    obtain ⟨_, rfl⟩ := tk_inv h1
    injection h with _ h
    omega
  split at h
  · obtain ⟨_, i1, h1, h⟩ := bind_ok_inv h
    obtain ⟨_, rfl⟩ := tk_inv h1
    injection h with _ h
    omega
  · cases h
theorem rdSs_le (L : List Sg) (n f : Nat) : ∀ room i left b q, rdSs L n f room i left = .ok b q → i ≤ q := by
  induction f with
  | zero => intro room i left b q h; rw [rdSs] at h; injection h with _ h; omega
  | succ f ih =>
    intro room i left b q h
    rw [rdSs, stepG] at h
    split at h
    · injection h with _ h; omega
    split at h
    · cases h
    split at h
    · cases h
    obtain ⟨g, q1, h1, h⟩ := bind_ok_inv h
    have := oneG_lt (fun j l b q _ => ih _ j l b q) h1
    obtain ⟨r, q2, h2, h⟩ := bind_ok_inv h
    have := ih _ _ _ _ _ h2
    injection h with _ h
    omega
theorem rdSs_fuel (L : List Sg) (n : Nat) (N : Nat) : ∀ f f' room i left, L.length + 1 - i ≤ N → L.length + 1 - i ≤ f → L.length + 1 - i ≤ f' → rdSs L n f room i left = rdSs L n f' room i left := by
  induction N with
  | zero =>
    intro f f' room i left h0 h1 h2
    have hz : wordOf L i = 0 := by
      rcases Int.decEq (wordOf L i) 0 with h | h
      · have := wordOf_lt h; omega
      · exact h
    have e : ∀ f, rdSs L n f room i left = .ok ([], left) i := by
      intro f
      cases f with
      | zero => rw [rdSs]
      | succ f => rw [rdSs, stepG, if_pos hz]
    rw [e, e]
  | succ N ih =>
    intro f f' room i left h0 h1 h2
    by_cases hz : wordOf L i = 0
    · have e : ∀ f, rdSs L n f room i left = .ok ([], left) i := by
        intro f
        cases f with
        | zero => rw [rdSs]
        | succ f => rw [rdSs, stepG, if_pos hz]
      rw [e, e]
    have hlt := wordOf_lt hz
    obtain ⟨g, rfl⟩ : ∃ g, f = g + 1 := ⟨f - 1, by omega⟩
    obtain ⟨g', rfl⟩ : ∃ g, f' = g + 1 := ⟨f' - 1, by omega⟩
    rw [rdSs, rdSs, stepG, stepG, if_neg hz, if_neg hz]
    split
    · rfl
    split
    · rfl
    rw [oneG_congr (rec := rdSs L n g (room - 1)) (rec' := rdSs L n g' (room - 1)) (fun j l b q _ => rdSs_le L n g _ j l b q) (fun j l hj => ih _ _ _ _ _ (by omega) (by omega) (by omega))]
    refine bind_congr fun x q hx => ?_
    have := oneG_lt (fun j l b q _ => rdSs_le L n g' _ j l b q) hx
    rw [ih g g' room q x.2 (by omega) (by omega) (by omega)]
theorem rdS_le {L : List Sg} {n room i left : Nat} {b : List St × Nat} {q : Nat} (h : rdS L n room i left = .ok b q) : i ≤ q := rdSs_le _ _ _ _ _ _ _ _ h
/-- one round -/
theorem rdS_eq (L : List Sg) (n room i left : Nat) : rdS L n room i left = stepG L n (rdS L n (room - 1)) (rdS L n room) room i left := by
  unfold rdS
  by_cases hz : wordOf L i = 0
  · rw [stepG, if_pos hz]
    cases L.length + 1 - i with
    | zero => rw [rdSs]
    | succ f => rw [rdSs, stepG, if_pos hz]
  have hlt := wordOf_lt hz
  obtain ⟨f, hf⟩ : ∃ f, L.length + 1 - i = f + 1 := ⟨L.length - i, by omega⟩
  rw [hf, rdSs, stepG, stepG, if_neg hz, if_neg hz]
  split
  · rfl
  split
  · rfl
  rw [oneG_congr (rec := rdSs L n f (room - 1)) (rec' := fun i left => rdSs L n (L.length + 1 - i) (room - 1) i left) (fun j l b q _ => rdSs_le L n f _ j l b q) (fun j l hj => rdSs_fuel L n f _ _ _ _ _ (by omega) (by omega) (by omega))]
  refine bind_congr fun x q hx => ?_
  have := oneG_lt (fun j l b q _ => rdSs_le L n _ _ j l b q) hx
  rw [rdSs_fuel L n f f (L.length + 1 - q) room q x.2 (by omega) (by omega) (by omega)]
/-- what the program's reader of statements makes of it: it stops at "}" or the end alone -/
def chkG (L : List Sg) (n : Nat) (g : Got (List St × Nat)) : Got (List St × Nat) := g.bind fun b q => if q < L.length ∧ ¬ tx L q = ⟨#[125]⟩ then .bad 3 (posAt L n q) else .ok b q
theorem blkG_chk {L : List Sg} {n : Nat} {rec : Nat → Nat → Got (List St × Nat)} {i left : Nat} : blkG L n (fun i left => chkG L n (rec i left)) i left = blkG L n rec i left := by
  unfold blkG
  refine bind_congr fun _ i1 _ => ?_
  unfold chkG
  dsimp only
  cases rec i1 left with
  | bad c p => rfl
  | ok b q =>
    rw [bind_ok, bind_ok]
    split
    · next h => rw [tk_bad h.2]; rfl
    · rfl

end Go.Proofs.YtdanlgmpgdipnaaDoor
