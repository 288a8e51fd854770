/- Lemmas for the row. -/
import Derived.Test.YtnmblfonmfjoeaaGreatDoorKc26
namespace Go.Proofs.YtnmblfonmfjoeaaGreatDoor
open Go.RowKit
set_option linter.unusedVariables false
def tmNums : List Int := [0, 1, 2, 3, 7, 999, 1000, 1000000000]
def tmKinds : List Int := [3, 4, 5, 6, 7, 9]
def tmNames : List ByteArray := [⟨#[120]⟩, ⟨#[121]⟩, ⟨#[122]⟩, ⟨#[120]⟩, ⟨#[117]⟩]
def leafD (code : List UInt8) (x : Int) (k : Cur) : Tm × Cur :=
 if x < 3 then (.mk 1 (pickI tmNums (belowD code 8 k).1) ByteArray.empty [], (belowD code 8 k).2)
 else (.mk 2 0 (pickS tmNames (belowD code 5 k).1) [], (belowD code 5 k).2)
def termD (code : List UInt8) : Nat → Cur → Tm × Cur
 | 0, k => leafD code (if 6 ≤ (belowD code 12 k).1 then (belowD code 12 k).1 - 6 else (belowD code 12 k).1) (belowD code 12 k).2
 | d + 1, k =>
  if (belowD code 12 k).1 < 6 then leafD code (belowD code 12 k).1 (belowD code 12 k).2
  else if (belowD code 12 k).1 = 6 then (.mk 8 0 ByteArray.empty [(termD code d (belowD code 12 k).2).1], (termD code d (belowD code 12 k).2).2)
  else (.mk (pickI tmKinds (belowD code 6 (belowD code 12 k).2).1) 0 ByteArray.empty [(termD code d (belowD code 6 (belowD code 12 k).2).2).1, (termD code d (termD code d (belowD code 6 (belowD code 12 k).2).2).2).1], (termD code d (termD code d (belowD code 6 (belowD code 12 k).2).2).2).2)
theorem leafD_num {code : List UInt8} {x : Int} {k : Cur} (h : x < 3) : leafD code x k = (.mk 1 (pickI tmNums (belowD code 8 k).1) ByteArray.empty [], (belowD code 8 k).2) := by unfold leafD; rw [if_pos h]
theorem leafD_var {code : List UInt8} {x : Int} {k : Cur} (h : ¬ x < 3) : leafD code x k = (.mk 2 0 (pickS tmNames (belowD code 5 k).1) [], (belowD code 5 k).2) := by unfold leafD; rw [if_neg h]
theorem termD_zero {code : List UInt8} {k : Cur} : termD code 0 k = leafD code (if 6 ≤ (belowD code 12 k).1 then (belowD code 12 k).1 - 6 else (belowD code 12 k).1) (belowD code 12 k).2 := rfl
theorem termD_leaf {code : List UInt8} {d : Nat} {k : Cur} (h : (belowD code 12 k).1 < 6) : termD code (d + 1) k = leafD code (belowD code 12 k).1 (belowD code 12 k).2 := by rw [termD, if_pos h]
theorem termD_not {code : List UInt8} {d : Nat} {k : Cur} (h : (belowD code 12 k).1 = 6) : termD code (d + 1) k = (.mk 8 0 ByteArray.empty [(termD code d (belowD code 12 k).2).1], (termD code d (belowD code 12 k).2).2) := by rw [termD, if_neg (by omega), if_pos h]
theorem termD_two {code : List UInt8} {d : Nat} {k : Cur} (h : 6 < (belowD code 12 k).1) : termD code (d + 1) k =
  (.mk (pickI tmKinds (belowD code 6 (belowD code 12 k).2).1) 0 ByteArray.empty [(termD code d (belowD code 6 (belowD code 12 k).2).2).1, (termD code d (termD code d (belowD code 6 (belowD code 12 k).2).2).2).1], (termD code d (termD code d (belowD code 6 (belowD code 12 k).2).2).2).2) := by
 rw [termD, if_neg (by omega), if_neg (by omega)]
theorem pickI_in (P : Int → Prop) {zs : List Int} {x : Int} (h : ∀ z ∈ zs, P z) (hx : x.toNat < zs.length) : P (pickI zs x) := h _ (pickI_mem hx)
theorem pickS_in (P : ByteArray → Prop) {ss : List ByteArray} {x : Int} (h : ∀ z ∈ ss, P z) (hx : x.toNat < ss.length) : P (pickS ss x) := h _ (pickS_mem hx)
theorem TmIs.leaf {F : Nat → Prop} {w : World} {k n : Int} {s : ByteArray} (hk : i64in k) (hn : i64in n) (hs : s.size ≤ maxLen) : TmIs F w [.int .i64 k, .int .i64 n, .string s, .slice none 0 0] (.mk k n s []) :=
 TmIs.mk' (kids := []) hk hn hs (by simp) (by simp [maxLen]) ⟨[], Rd.nil, fun _ _ e _ => (nomatch e), fun i h => absurd h (by simp)⟩
theorem put_keep {p g : Nat} {w w' : World} (h : Keep (fun b => b ≠ p) w w') (hg : w.heap.size ≤ g) (x : V4) : Keep (fun b => b ≠ p) w (put4 w' g 0 x) :=
 ((((h.fresh.setNew (a := ⟨g, 0, none⟩) hg _).setNew (a := ⟨g, 0 + 1, none⟩) hg _).setNew (a := ⟨g, 0 + 2, none⟩) hg _).setNew (a := ⟨g, 0 + 3, none⟩) hg _).old (Nat.le_refl _)
theorem put_cur {w : World} {p g : Nat} {A : Option Addr} {c : Nat} {code : List UInt8} {k : Cur} (h : CurAt w p A c code k) (hg : g ≠ p) (x : V4) : CurAt (put4 w g 0 x) p A c code k :=
 (((h.setNew (a := ⟨g, 0, none⟩) hg _).setNew (a := ⟨g, 0 + 1, none⟩) hg _).setNew (a := ⟨g, 0 + 2, none⟩) hg _).setNew (a := ⟨g, 0 + 3, none⟩) hg _
structure BoxZ (w : World) (g : Nat) : Prop where
 at' : w.heap[g]? = some (.cells #[.int .i64 0, .int .i64 0, .string ⟨#[]⟩, .slice none 0 0] 43 (0, 0))
theorem BoxZ.keep {w w' : World} {g p : Nat} (h : BoxZ w g) (hk : Keep (fun b => b ≠ p) w w') (hp : g ≠ p) : BoxZ w' g := ⟨(hk.block g (lt_of_block h.at') hp).trans h.at'⟩
theorem BoxZ.below {w w' : World} {g : Nat} (h : BoxZ w g) (hb : Below w.heap.size w w') : BoxZ w' g := ⟨(hb.block g (lt_of_block h.at')).trans h.at'⟩
theorem BoxZ.cells {w : World} {g : Nat} (h : BoxZ w g) : (w.cell? ⟨g, 0, none⟩ = some (.int .i64 0) ∧ w.cell? ⟨g, 1, none⟩ = some (.int .i64 0) ∧ w.cell? ⟨g, 2, none⟩ = some (.string ⟨#[]⟩) ∧ w.cell? ⟨g, 3, none⟩ = some (.slice none 0 0)) ∧
  w.frozen? ⟨g, 0, none⟩ = false ∧ w.frozen? ⟨g, 1, none⟩ = false ∧ w.frozen? ⟨g, 2, none⟩ = false ∧ w.frozen? ⟨g, 3, none⟩ = false := by
 have hh := h.at'
 refine ⟨⟨?_, ?_, ?_, ?_⟩, ?_, ?_, ?_, ?_⟩ <;> simp [World.cell?, World.frozen?, hh]
theorem tmNums_in : ∀ z ∈ tmNums, i64in z := by unfold i64in; decide
theorem tmNames_in : ∀ s ∈ tmNames, s.size ≤ maxLen := by unfold maxLen; decide
theorem pick_nums (b p : Nat) (hbp : b ≠ p) (A : Option Addr) (c : Nat) (code : List UInt8) (k : Cur) (w : World) (rz : Rd w 1 (some ⟨b, 0, none⟩) 8 (tmNums.map (Value.int .i64))) (rd : Rd w 1 A code.length (bv code)) (hl : code.length ≤ 1048576) (hc : c ≤ maxLen) (hk : CurAt w p A c code k) :
  Calls Tryz.prog 106 #[.pointer (some ⟨p, 0, none⟩), .slice (some ⟨b, 0, none⟩) 8 8] w fun e w' => e = .returned (.int .i64 (pickI tmNums (belowD code 8 k).1)) ∧ CurAt w' p A c code (belowD code 8 k).2 ∧ Keep (fun b => b ≠ p) w w' :=
 spec_l01PickInt tmNums (by decide) (by decide) b p hbp A c code k w rz rd hl hc hk
theorem pick_kinds (b p : Nat) (hbp : b ≠ p) (A : Option Addr) (c : Nat) (code : List UInt8) (k : Cur) (w : World) (rz : Rd w 1 (some ⟨b, 0, none⟩) 6 (tmKinds.map (Value.int .i64))) (rd : Rd w 1 A code.length (bv code)) (hl : code.length ≤ 1048576) (hc : c ≤ maxLen) (hk : CurAt w p A c code k) :
  Calls Tryz.prog 106 #[.pointer (some ⟨p, 0, none⟩), .slice (some ⟨b, 0, none⟩) 6 6] w fun e w' => e = .returned (.int .i64 (pickI tmKinds (belowD code 6 k).1)) ∧ CurAt w' p A c code (belowD code 6 k).2 ∧ Keep (fun b => b ≠ p) w w' :=
 spec_l01PickInt tmKinds (by decide) (by decide) b p hbp A c code k w rz rd hl hc hk
theorem pick_names (b p : Nat) (hbp : b ≠ p) (A : Option Addr) (c : Nat) (code : List UInt8) (k : Cur) (w : World) (rz : Rd w 1 (some ⟨b, 0, none⟩) 5 (tmNames.map Value.string)) (rd : Rd w 1 A code.length (bv code)) (hl : code.length ≤ 1048576) (hc : c ≤ maxLen) (hk : CurAt w p A c code k) :
  Calls Tryz.prog 72 #[.pointer (some ⟨p, 0, none⟩), .slice (some ⟨b, 0, none⟩) 5 5] w fun e w' => e = .returned (.string (pickS tmNames (belowD code 5 k).1)) ∧ CurAt w' p A c code (belowD code 5 k).2 ∧ Keep (fun b => b ≠ p) w w' :=
 spec_l01Pick tmNames (by decide) (by decide) b p hbp A c code k w rz rd hl hc hk
theorem tmKinds_in : ∀ z ∈ tmKinds, i64in z := by unfold i64in; decide
end Go.Proofs.YtnmblfonmfjoeaaGreatDoor
