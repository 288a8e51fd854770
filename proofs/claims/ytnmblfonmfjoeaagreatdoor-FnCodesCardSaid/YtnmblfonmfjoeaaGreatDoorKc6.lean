/- Lemmas for the row. -/
import Derived.StillTailTactics
import Derived.Test.YtnmblfonmfjoeaaGreatDoorKc3
namespace Go.Proofs.YtnmblfonmfjoeaaGreatDoor
open Go.RowKit
set_option linter.unusedVariables false
def figC (n : Nat) : UInt8 := if n < 10 then UInt8.ofNat (48 + n) else UInt8.ofNat (87 + n)
theorem figC_toNat (n : Nat) (h : n < 16) : ((figC n).toNat : Int) = if (n : Int) < 10 then 48 + (n : Int) else 87 + (n : Int) := by
 unfold figC
 by_cases h1 : n < 10
 ·have : (n : Int) < 10 := by omega
  simp only [h1, this, if_true, UInt8.toNat_ofNat']
  omega
 ·have : ¬ (n : Int) < 10 := by omega
  simp only [h1, this, if_false, UInt8.toNat_ofNat']
  omega
theorem u8T : ElemT Tryz.prog 22 5 1 1 := ElemT.mk' (z := .int .u8 0) Tryz.underlying22 (by kernel_rfl) rfl (by decide)
theorem str_run {w : World} {A : Option Addr} {n : Nat} (c : Nat) {l : List UInt8} (rd : Rd w 1 A n (bv l)) : (convert 22 9 (.slice A n c)).run Tryz.prog w = .ok (.string ⟨l.toArray⟩) w :=
 run_str 22 5 9 Tryz.underlying22 Tryz.underlying5 Tryz.underlying9 c rd
theorem spec_l01Figure (x : Int) (w : World) (h0 : 0 ≤ x) (h1 : x < 16) : Calls Tryz.prog 67 #[.int .i64 x] w fun e w' => e = .returned (.int .u8 ((figC x.toNat).toNat : Int)) ∧ w = w' := by
 obtain ⟨n, rfl⟩ := Int.eq_ofNat_of_zero_le h0
 have hf := qh (figC_toNat n (by omega))
 by_cases h2 : (n : Int) < 10
 ·go_enter Tryz.func67, Tryz.ntmps67
  go_wp2
  go_ret
  exact ⟨ret_int (by rw [Int.toNat_natCast, hf.out, if_pos h2]), rfl⟩
 ·go_enter Tryz.func67, Tryz.ntmps67
  go_wp2
  go_ret
  exact ⟨ret_int (by (first | rw [hf.out, if_neg (by omega)] | rw [Int.toNat_natCast, hf.out, if_neg (by omega)]); omega), rfl⟩
def OwnStrs (w0 w : World) (v : Value) (ss : List ByteArray) : Prop := Own w0 w 9 1 v ss.length (ss.map Value.string)
theorem OwnStrs.is {w0 w : World} {v : Value} {ss : List ByteArray} (h : OwnStrs w0 w v ss) : ∃ A c, v = .slice A ss.length c ∧ ss.length ≤ c ∧ Rd w 1 A ss.length (ss.map Value.string) := by
 obtain ⟨A, c, e, hc⟩ := h.slice
 subst e
 exact ⟨A, c, rfl, hc, h.rd⟩
theorem OwnStrs.below {w0 w w' : World} {v : Value} {ss : List ByteArray} (h : OwnStrs w0 w v ss) (hb : Below w.heap.size w w') : OwnStrs w0 w' v ss := Own.below h hb
theorem own_cap {w : World} {base : Nat} {e : TypeId} {sz n c : Nat} {A : Option Addr} {xs : List Value} (h : w.ownsRow base e sz (.slice A n c) n xs) : c ≤ maxLen := by
 rcases h.2 with ⟨h1, _⟩ | ⟨g, cap, cur, h1, _, _, _, hm, _⟩
 ·injection h1 with _ _ h2; subst h2; simp [maxLen]
 ·injection h1 with _ _ h2; subst h2; exact hm
theorem OwnStrs.isStrs {w0 w : World} {v : Value} {ss : List ByteArray} (h : OwnStrs w0 w v ss) : IsStrs w v ss := by
 obtain ⟨A, c, e, hc⟩ := h.slice
 subst e
 exact ⟨A, c, rfl, hc, own_cap h.1, h.rd⟩
inductive TmO (w : World) : (Nat → Prop) → List Value → Tm → Prop
 | mk (F : Nat → Prop) (k n : Int) (s : ByteArray) (A : Option Addr) (c : Nat) (cs : List Value) (kids : List Tm) (G : Nat → Nat → Prop) (hk : i64in k) (hn : i64in n) (hs : s.size ≤ maxLen) (hl : kids.length ≤ c) (hc : c ≤ maxLen) (row : RowO w F 4 A kids.length cs G)
   (hx : ∀ i (h : i < kids.length), TmO w (G i) ((cs.drop (i * 4)).take 4) kids[i]) : TmO w F [.int .i64 k, .int .i64 n, .string s, .slice A kids.length c] (.mk k n s kids)
def TmRowO (w : World) (F : Nat → Prop) (A : Option Addr) (ts : List Tm) : Prop :=
 ∃ cs G, RowO w F 4 A ts.length cs G ∧ ∀ i (h : i < ts.length), TmO w (G i) ((cs.drop (i * 4)).take 4) ts[i]
theorem TmO.inv {F : Nat → Prop} {w : World} {k n : Int} {s : ByteArray} {A : Option Addr} {m c : Nat} {t : Tm} (h : TmO w F [.int .i64 k, .int .i64 n, .string s, .slice A m c] t) :
  ∃ kids, t = .mk k n s kids ∧ m = kids.length ∧ kids.length ≤ c ∧ c ≤ maxLen ∧ i64in k ∧ i64in n ∧ s.size ≤ maxLen ∧ TmRowO w F A kids := by
 cases h with
 | mk _ _ _ _ _ _ cs kids G hk hn hs hl hc row hx => exact ⟨kids, rfl, rfl, hl, hc, hk, hn, hs, cs, G, row, hx⟩
theorem TmO.mk' {F : Nat → Prop} {w : World} {k n : Int} {s : ByteArray} {A : Option Addr} {c : Nat} {kids : List Tm} (hk : i64in k) (hn : i64in n) (hs : s.size ≤ maxLen) (hl : kids.length ≤ c) (hc : c ≤ maxLen) (row : TmRowO w F A kids) :
  TmO w F [.int .i64 k, .int .i64 n, .string s, .slice A kids.length c] (.mk k n s kids) := by
 obtain ⟨cs, G, r, hx⟩ := row
 exact .mk F k n s A c cs kids G hk hn hs hl hc r hx
theorem TmO.form {F : Nat → Prop} {w : World} {cs : List Value} {t : Tm} (h : TmO w F cs t) : ∃ k n s A m c, cs = [.int .i64 k, .int .i64 n, .string s, .slice A m c] := by
 cases h with
 | mk _ k n s A c cs kids G hk hn hs hl hc row hx => exact ⟨k, n, s, A, _, c, rfl⟩
theorem TmO.sub {F F' : Nat → Prop} {w : World} {cs : List Value} {t : Tm} (h : TmO w F cs t) (hF : ∀ b, F b → F' b) : TmO w F' cs t := by
 cases h with
 | mk _ k n s A c cs kids G hk hn hs hl hc row hx => exact .mk F' k n s A c cs kids G hk hn hs hl hc (row.sub hF) hx
theorem TmRowO.sub {F F' : Nat → Prop} {w : World} {A : Option Addr} {ts : List Tm} (h : TmRowO w F A ts) (hF : ∀ b, F b → F' b) : TmRowO w F' A ts := by
 obtain ⟨cs, G, r, hx⟩ := h
 exact ⟨cs, G, r.sub hF, hx⟩
theorem TmO.keep {F : Nat → Prop} {w w' : World} {cs : List Value} {t : Tm} (h : TmO w F cs t) (hk : ∀ b, F b → w'.heap[b]? = w.heap[b]?) : TmO w' F cs t := by
 induction h with
 | mk F k n s A c cs kids G h1 h2 h3 hl hc row hx ih => exact .mk F k n s A c cs kids G h1 h2 h3 hl hc (row.keep hk) fun i hi => ih i hi fun b hb => hk b (row.2.2.1 i b hi hb)
theorem TmRowO.keep {F : Nat → Prop} {w w' : World} {A : Option Addr} {ts : List Tm} (h : TmRowO w F A ts) (hk : ∀ b, F b → w'.heap[b]? = w.heap[b]?) : TmRowO w' F A ts := by
 obtain ⟨cs, G, row, hx⟩ := h
 exact ⟨cs, G, row.keep hk, fun i hi => (hx i hi).keep fun b hb => hk b (row.2.2.1 i b hi hb)⟩
theorem TmO.is {F : Nat → Prop} {w : World} {cs : List Value} {t : Tm} (h : TmO w F cs t) : TmIs (Pl w F) w cs t := by
 induction h with
 | mk F k n s A c cs kids G h1 h2 h3 hl hc row hx ih =>
  refine .mk k n s A c cs kids h1 h2 h3 hl hc row.1 (fun b off e hn => ?_) fun i hi => (ih i hi).keep (fun _ _ _ => rfl) (fun b _ ⟨q1, q2⟩ => ⟨row.2.2.1 i b hi q1, q2⟩)
  subst e
  exact (row.lt hn).2
theorem TmRowO.is {F : Nat → Prop} {w : World} {A : Option Addr} {ts : List Tm} (h : TmRowO w F A ts) : TmRow (Pl w F) w A ts := by
 obtain ⟨cs, G, row, hx⟩ := h
 refine ⟨cs, row.1, fun b off e hn => ?_, fun i hi => (hx i hi).is.keep (fun _ _ _ => rfl) (fun b _ ⟨q1, q2⟩ => ⟨row.2.2.1 i b hi q1, q2⟩)⟩
 subst e
 exact (row.lt hn).2
theorem TmO.any {F : Nat → Prop} {w : World} {cs : List Value} {t : Tm} (h : TmO w F cs t) : TmIs AnyB w cs t := h.is.any
theorem TmRowO.any {F : Nat → Prop} {w : World} {A : Option Addr} {ts : List Tm} (h : TmRowO w F A ts) : TmRow AnyB w A ts := h.is.any
theorem TmO.fr {w w' W : World} {cs : List Value} {t : Tm} (h : TmO W (Made w w') cs t) : TmIs (Fr w.heap.size W) W cs t := h.is.keep (fun _ _ _ => rfl) (fun b _ ⟨q1, q2⟩ => ⟨q1.1, q2⟩)
theorem TmRowO.fr {w w' W : World} {A : Option Addr} {ts : List Tm} (h : TmRowO W (Made w w') A ts) : TmRow (Fr w.heap.size W) W A ts := h.is.keep (fun _ _ _ => rfl) (fun b _ ⟨q1, q2⟩ => ⟨q1.1, q2⟩)
theorem TmO.set {w : World} {F : Nat → Prop} {cs : List Value} {t : Tm} (h : TmO w F cs t) {p : Addr} (hp : ¬ F p.block) (u : Value) : TmO (w.setCell p u) F cs t := h.keep fun b hb => Below.heap_setCell w p u b (fun e => hp (by rw [← e]; exact hb))
theorem TmRowO.set {w : World} {F : Nat → Prop} {A : Option Addr} {ts : List Tm} (h : TmRowO w F A ts) {p : Addr} (hp : ¬ F p.block) (u : Value) : TmRowO (w.setCell p u) F A ts := h.keep fun b hb => Below.heap_setCell w p u b (fun e => hp (by rw [← e]; exact hb))
theorem TmO.put4 {w : World} {F : Nat → Prop} {cs : List Value} {t : Tm} (h : TmO w F cs t) {g : Nat} (hg : ¬ F g) (o : Nat) (x : V4) : TmO (put4 w g o x) F cs t :=
 (((h.set (p := ⟨g, o, none⟩) hg _).set (p := ⟨g, o + 1, none⟩) hg _).set (p := ⟨g, o + 2, none⟩) hg _).set (p := ⟨g, o + 3, none⟩) hg _
def RetTO (w : World) (t : Tm) (e : Ending) (w' : World) : Prop := ∃ k n s A m c, e = .returned (.agg #[.int .i64 k, .int .i64 n, .string s, .slice A m c]) ∧ TmO w' (Made w w') [.int .i64 k, .int .i64 n, .string s, .slice A m c] t ∧ Below w.heap.size w w'
mutual
theorem nodes_tot : (t : Tm) → nodes t ≤ 1 + totT t
 | .mk k n s kids => by rw [nodes, totT]; have := nodess_tot kids; omega
theorem nodess_tot : (l : List Tm) → nodess l ≤ totTs l
 | [] => by simp [nodess, totTs]
 | t :: r => by rw [nodess, totTs]; have := nodes_tot t; have := nodess_tot r; omega
end
theorem TmO.keepP : ∀ w w' G cells x, TmO w G cells x → (∀ b, G b → w'.heap[b]? = w.heap[b]?) → TmO w' G cells x := fun _ _ _ _ _ h hk => h.keep hk
end Go.Proofs.YtnmblfonmfjoeaaGreatDoor
