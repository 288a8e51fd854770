/- Several texts in one: RdSp, StmtSz. -/
import Derived.Test.YtefcdpkficojgaaDoorKc11
import Derived.Test.YtefcdpkficojgaaDoorKc26
import Derived.Test.YtefcdpkficojgaaDoorKc6
namespace Go.Proofs.YtefcdpkficojgaaDoor
open Go.RowKit
set_option linter.unusedVariables false


def Got.bind {α β : Type} (g : Got α) (f : α → Nat → Got β) : Got β := match g with | .bad c p => .bad c p | .ok a i => f a i
theorem bind_ok {α β : Type} {a : α} {i : Nat} {f : α → Nat → Got β} : (Got.ok a i).bind f = f a i := rfl
theorem bind_ok_inv {α β : Type} {g : Got α} {f : α → Nat → Got β} {b : β} {j : Nat} (h : g.bind f = .ok b j) : ∃ a i, g = .ok a i ∧ f a i = .ok b j := by
  cases g with
  | bad c p => cases h
  | ok a i => exact ⟨a, i, rfl, h⟩
theorem bind_congr {α β : Type} {g : Got α} {f f' : α → Nat → Got β} (h : ∀ a i, g = .ok a i → f a i = f' a i) : g.bind f = g.bind f' := by
  cases g with
  | bad c p => rfl
  | ok a i => exact h a i rfl
def tk (L : List Sg) (n : Nat) (s : ByteArray) (i : Nat) : Got Unit := if tx L i = s then .ok () (i + 1) else .bad 3 (posAt L n i)
theorem tk_ok {L : List Sg} {n i : Nat} {s : ByteArray} (h : tx L i = s) : tk L n s i = .ok () (i + 1) := by unfold tk; rw [if_pos h]
theorem tk_bad {L : List Sg} {n i : Nat} {s : ByteArray} (h : ¬ tx L i = s) : tk L n s i = .bad 3 (posAt L n i) := by unfold tk; rw [if_neg h]
theorem tk_inv {L : List Sg} {n i j : Nat} {s : ByteArray} {u : Unit} (h : tk L n s i = .ok u j) : tx L i = s ∧ j = i + 1 := by
  unfold tk at h
  split at h
  · next h1 => injection h with _ h; exact ⟨h1, h.symm⟩
  · cases h
def tIf : ByteArray := ⟨#[105, 102]⟩
def tWhile : ByteArray := ⟨#[119, 104, 105, 108, 101]⟩
def tCall : ByteArray := ⟨#[99, 97, 108, 108]⟩
def tSpawn : ByteArray := ⟨#[115, 112, 97, 119, 110]⟩
def tLock : ByteArray := ⟨#[108, 111, 99, 107]⟩
def tUnlock : ByteArray := ⟨#[117, 110, 108, 111, 99, 107]⟩
def tSkip : ByteArray := ⟨#[115, 107, 105, 112]⟩
def tElse : ByteArray := ⟨#[101, 108, 115, 101]⟩
def wordOf (L : List Sg) (i : Nat) : Int := if tx L i = tIf then 2 else if tx L i = tWhile then 3 else if tx L i = tCall then 4 else if tx L i = tSpawn then 5 else if tx L i = tLock then 6 else if tx L i = tUnlock then 7 else if tx L i = tSkip then 8 else if nmB L i = true then 1 else 0
theorem wordOf_lt {L : List Sg} {i : Nat} (h : ¬ wordOf L i = 0) : i < L.length := by
  rcases Nat.lt_or_ge i L.length with h1 | h1
  · exact h1
  · exfalso
    apply h
    unfold wordOf
    rw [tx_ge (by omega), nmB_ge (by omega)]
    decide
/-- "{", statements, "}" -/
def blkG (L : List Sg) (n : Nat) (rec : Nat → Nat → Got (List St × Nat)) (i left : Nat) : Got (List St × Nat) :=
  (tk L n ⟨#[123]⟩ i).bind fun _ i1 => (rec i1 left).bind fun b i2 => (tk L n ⟨#[125]⟩ i2).bind fun _ i3 => .ok b i3
def elsG (L : List Sg) (n : Nat) (rec : Nat → Nat → Got (List St × Nat)) (i left : Nat) : Got (List St × Nat) :=
  if tx L i = ⟨#[123]⟩ ∧ wordOf L (i + 1) = 0 then .bad 3 (posAt L n (i + 1)) else blkG L n rec i left
def nesG (L : List Sg) (n : Nat) (rec : Nat → Nat → Got (List St × Nat)) (k : Int) (i left : Nat) : Got (St × Nat) :=
  (rdT L n 6 (i + 1)).bind fun t i1 => (blkG L n rec i1 left).bind fun b i2 =>
    if k = 3 ∨ ¬ tx L i2 = tElse then .ok (.mk k ⟨#[]⟩ t b.1 [], b.2) i2
    else (elsG L n rec (i2 + 1) b.2).bind fun e i3 => .ok (.mk k ⟨#[]⟩ t b.1 e.1, e.2) i3
def zTm : Tm := .mk 0 0 ⟨#[]⟩ []
def oneG (L : List Sg) (n : Nat) (rec : Nat → Nat → Got (List St × Nat)) (k : Int) (i left : Nat) : Got (St × Nat) :=
  if k = 2 ∨ k = 3 then nesG L n rec k i left
  else if k = 1 then (tk L n ⟨#[61]⟩ (i + 1)).bind fun _ i1 => (rdT L n 6 i1).bind fun t i2 => (tk L n ⟨#[59]⟩ i2).bind fun _ i3 => .ok (.mk 1 (tx L i) t [] [], left) i3
  else if k = 8 then (tk L n ⟨#[59]⟩ (i + 1)).bind fun _ i1 => .ok (.mk 8 ⟨#[]⟩ zTm [] [], left) i1
  else if nmB L (i + 1) = true then (tk L n ⟨#[59]⟩ (i + 2)).bind fun _ i1 => .ok (.mk k (tx L (i + 1)) zTm [] [], left) i1
  else .bad 3 (posAt L n (i + 1))
def stepG (L : List Sg) (n : Nat) (rec1 : Nat → Nat → Got (List St × Nat)) (rec0 : Nat → Nat → Got (List St × Nat)) (room i left : Nat) : Got (List St × Nat) :=
  if wordOf L i = 0 then .ok ([], left) i
  else if (wordOf L i = 2 ∨ wordOf L i = 3) ∧ room = 0 then .bad 4 (posAt L n i)
  else if left = 0 then .bad 5 (posAt L n i)
  else (oneG L n rec1 (wordOf L i) i (left - 1)).bind fun g q => (rec0 q g.2).bind fun r q2 => .ok (g.1 :: r.1, r.2) q2
def rdSs (L : List Sg) (n : Nat) : Nat → Nat → Nat → Nat → Got (List St × Nat)
  | 0, room, i, left => .ok ([], left) i
  | f + 1, room, i, left => stepG L n (rdSs L n f (room - 1)) (rdSs L n f room) room i left
def rdS (L : List Sg) (n : Nat) (room i left : Nat) : Got (List St × Nat) := rdSs L n (L.length + 1 - i) room i left
theorem blkG_congr {L : List Sg} {n : Nat} {rec rec' : Nat → Nat → Got (List St × Nat)} {i0 i left : Nat} (hi : i0 ≤ i) (h : ∀ j l, i0 < j → rec j l = rec' j l) : blkG L n rec i left = blkG L n rec' i left := by
  unfold blkG
  refine bind_congr fun _ i1 h1 => ?_
  obtain ⟨_, rfl⟩ := tk_inv h1
  rw [h _ _ (by omega)]
theorem blkG_lt {L : List Sg} {n : Nat} {rec : Nat → Nat → Got (List St × Nat)} {i left q : Nat} {b : List St × Nat} (hr : ∀ j l b q, i < j → rec j l = .ok b q → j ≤ q) (h : blkG L n rec i left = .ok b q) : i + 2 ≤ q := by
  unfold blkG at h
  obtain ⟨_, i1, h1, h⟩ := bind_ok_inv h
  obtain ⟨_, rfl⟩ := tk_inv h1
  obtain ⟨b', i2, h2, h⟩ := bind_ok_inv h
  have := hr _ _ _ _ (by omega) h2
  obtain ⟨_, i3, h3, h⟩ := bind_ok_inv h
  obtain ⟨_, rfl⟩ := tk_inv h3
  injection h with _ h
  omega
theorem elsG_congr {L : List Sg} {n : Nat} {rec rec' : Nat → Nat → Got (List St × Nat)} {i0 i left : Nat} (hi : i0 ≤ i) (h : ∀ j l, i0 < j → rec j l = rec' j l) : elsG L n rec i left = elsG L n rec' i left := by
  unfold elsG
  rw [blkG_congr hi h]
theorem elsG_lt {L : List Sg} {n : Nat} {rec : Nat → Nat → Got (List St × Nat)} {i left q : Nat} {b : List St × Nat} (hr : ∀ j l b q, i < j → rec j l = .ok b q → j ≤ q) (h : elsG L n rec i left = .ok b q) : i + 2 ≤ q := by
  unfold elsG at h
  split at h
  · cases h
  · exact blkG_lt hr h
theorem oneG_congr {L : List Sg} {n : Nat} {rec rec' : Nat → Nat → Got (List St × Nat)} {k : Int} {i left : Nat} (hr : ∀ j l b q, i < j → rec j l = .ok b q → j ≤ q) (h : ∀ j l, i < j → rec j l = rec' j l) : oneG L n rec k i left = oneG L n rec' k i left := by
  unfold oneG
  split
  · unfold nesG
    refine bind_congr fun t i1 h1 => ?_
    have := rdT_lt _ _ _ _ _ _ h1
    rw [blkG_congr (i0 := i) (by omega) h]
    refine bind_congr fun b i2 h2 => ?_
    rw [← blkG_congr (i0 := i) (by omega) h] at h2
    have := blkG_lt (fun j l b q hj => hr j l b q (by omega)) h2
    split
    · rfl
    · rw [elsG_congr (i0 := i) (by omega) h]
  · rfl
theorem oneG_lt {L : List Sg} {n : Nat} {rec : Nat → Nat → Got (List St × Nat)} {k : Int} {i left q : Nat} {b : St × Nat} (hr : ∀ j l b q, i < j → rec j l = .ok b q → j ≤ q) (h : oneG L n rec k i left = .ok b q) : i < q := by
  unfold oneG at h
  split at h
  · unfold nesG at h
    obtain ⟨t, i1, h1, h⟩ := bind_ok_inv h
    have := rdT_lt _ _ _ _ _ _ h1
    obtain ⟨b1, i2, h2, h⟩ := bind_ok_inv h
    have := blkG_lt (fun j l b q hj => hr j l b q (by omega)) h2
    split at h
    · injection h with _ h; omega
    · obtain ⟨e, i3, h3, h⟩ := bind_ok_inv h
      have := elsG_lt (fun j l b q hj => hr j l b q (by omega)) h3
      injection h with _ h
      omega
  split at h
  · obtain ⟨_, i1, h1, h⟩ := bind_ok_inv h
    obtain ⟨_, rfl⟩ := tk_inv h1
    obtain ⟨t, i2, h2, h⟩ := bind_ok_inv h
    have := rdT_lt _ _ _ _ _ _ h2
    obtain ⟨_, i3, h3, h⟩ := bind_ok_inv h
    obtain ⟨_, rfl⟩ := tk_inv h3
    injection h with _ h
    omega
  split at h
  · obtain ⟨_, i1, h1, h⟩ := bind_ok_inv h
    obtain ⟨_, rfl⟩ := tk_inv h1
    injection h with _ h
    omega
  split at h
  · obtain ⟨_, i1, h1, h⟩ := bind_ok_inv h
    obtain ⟨_, rfl⟩ := tk_inv h1
    injection h with _ h
    omega
  · cases h
theorem rdSs_le (L : List Sg) (n f : Nat) : ∀ room i left b q, rdSs L n f room i left = .ok b q → i ≤ q := by
  induction f with
  | zero => intro room i left b q h; rw [rdSs] at h; injection h with _ h; omega
  | succ f ih =>
    intro room i left b q h
    rw [rdSs, stepG] at h
    split at h
    · injection h with _ h; omega
    split at h
    · cases h
    split at h
    · cases h
    obtain ⟨g, q1, h1, h⟩ := bind_ok_inv h
    have := oneG_lt (fun j l b q _ => ih _ j l b q) h1
    obtain ⟨r, q2, h2, h⟩ := bind_ok_inv h
    have := ih _ _ _ _ _ h2
    injection h with _ h
    omega
theorem rdSs_fuel (L : List Sg) (n : Nat) (N : Nat) : ∀ f f' room i left, L.length + 1 - i ≤ N → L.length + 1 - i ≤ f → L.length + 1 - i ≤ f' → rdSs L n f room i left = rdSs L n f' room i left := by
  induction N with
  | zero =>
    intro f f' room i left h0 h1 h2
    have hz : wordOf L i = 0 := by
      rcases Int.decEq (wordOf L i) 0 with h | h
      · have := wordOf_lt h; omega
      · exact h
    have e : ∀ f, rdSs L n f room i left = .ok ([], left) i := by
      intro f
      cases f with
      | zero => rw [rdSs]
      | succ f => rw [rdSs, stepG, if_pos hz]
    rw [e, e]
  | succ N ih =>
    intro f f' room i left h0 h1 h2
    by_cases hz : wordOf L i = 0
    · have e : ∀ f, rdSs L n f room i left = .ok ([], left) i := by
        intro f
        cases f with
        | zero => rw [rdSs]
        | succ f => rw [rdSs, stepG, if_pos hz]
      rw [e, e]
    have hlt := wordOf_lt hz
    obtain ⟨g, rfl⟩ : ∃ g, f = g + 1 := ⟨f - 1, by omega⟩
    obtain ⟨g', rfl⟩ : ∃ g, f' = g + 1 := ⟨f' - 1, by omega⟩
    rw [rdSs, rdSs, stepG, stepG, if_neg hz, if_neg hz]
    split
    · rfl
    split
    · rfl
    rw [oneG_congr (rec := rdSs L n g (room - 1)) (rec' := rdSs L n g' (room - 1)) (fun j l b q _ => rdSs_le L n g _ j l b q) (fun j l hj => ih _ _ _ _ _ (by omega) (by omega) (by omega))]
    refine bind_congr fun x q hx => ?_
    have := oneG_lt (fun j l b q _ => rdSs_le L n g' _ j l b q) hx
    rw [ih g g' room q x.2 (by omega) (by omega) (by omega)]
theorem rdS_le {L : List Sg} {n room i left : Nat} {b : List St × Nat} {q : Nat} (h : rdS L n room i left = .ok b q) : i ≤ q := rdSs_le _ _ _ _ _ _ _ _ h
/-- one round -/
theorem rdS_eq (L : List Sg) (n room i left : Nat) : rdS L n room i left = stepG L n (rdS L n (room - 1)) (rdS L n room) room i left := by
  unfold rdS
  by_cases hz : wordOf L i = 0
  · rw [stepG, if_pos hz]
    cases L.length + 1 - i with
    | zero => rw [rdSs]
    | succ f => rw [rdSs, stepG, if_pos hz]
  have hlt := wordOf_lt hz
  obtain ⟨f, hf⟩ : ∃ f, L.length + 1 - i = f + 1 := ⟨L.length - i, by omega⟩
  rw [hf, rdSs, stepG, stepG, if_neg hz, if_neg hz]
  split
  · rfl
  split
  · rfl
  rw [oneG_congr (rec := rdSs L n f (room - 1)) (rec' := fun i left => rdSs L n (L.length + 1 - i) (room - 1) i left) (fun j l b q _ => rdSs_le L n f _ j l b q) (fun j l hj => rdSs_fuel L n f _ _ _ _ _ (by omega) (by omega) (by omega))]
  refine bind_congr fun x q hx => ?_
  have := oneG_lt (fun j l b q _ => rdSs_le L n _ _ j l b q) hx
  rw [rdSs_fuel L n f f (L.length + 1 - q) room q x.2 (by omega) (by omega) (by omega)]
/-- what the program's reader of statements makes of it: it stops at "}" or the end alone -/
def chkG (L : List Sg) (n : Nat) (g : Got (List St × Nat)) : Got (List St × Nat) := g.bind fun b q => if q < L.length ∧ ¬ tx L q = ⟨#[125]⟩ then .bad 3 (posAt L n q) else .ok b q
theorem blkG_chk {L : List Sg} {n : Nat} {rec : Nat → Nat → Got (List St × Nat)} {i left : Nat} : blkG L n (fun i left => chkG L n (rec i left)) i left = blkG L n rec i left := by
  unfold blkG
  refine bind_congr fun _ i1 _ => ?_
  unfold chkG
  dsimp only
  cases rec i1 left with
  | bad c p => rfl
  | ok b q =>
    rw [bind_ok, bind_ok]
    split
    · next h => rw [tk_bad h.2]; rfl
    · rfl

end Go.Proofs.YtefcdpkficojgaaDoor
