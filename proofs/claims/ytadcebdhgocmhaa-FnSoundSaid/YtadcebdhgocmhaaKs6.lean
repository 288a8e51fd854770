/- Several texts in one: Picks, Terms. -/
import Derived.Test.YtadcebdhgocmhaaKs3
import Derived.Test.YtadcebdhgocmhaaKs4
import Derived.Test.YtadcebdhgocmhaaKs5
import Derived.Test.YtadcebdhgocmhaaKs2
import Derived.Deep.RegionHeld3
import Derived.Lib.SmallJoins
namespace Go.Proofs.Ytadcebdhgocmhaa
open Go.RowKit
set_option linter.unusedVariables false


set_option maxRecDepth 100000 in
theorem open_code {H : Type} {enc : TypeId × Value → H} {w : World} {r : Reach} {b0 base : Nat} {spare : Nat → Bool} {held : Bool} {v : Value} {d : DataW H} {p : List MemPlace} (hv : Value.okWide Try.prog w r b0 22 v) (h : DataW.Trod enc Try.prog w base spare held 22 v d p) :
    ∃ code : List UInt8, ∃ A c, v = .slice A code.length c ∧ code.length ≤ c ∧ c ≤ maxLen ∧ Rd w 1 A code.length (bv code) := by
  obtain ⟨a0, len, cap, rfl⟩ := Go.WideShapes.okWide_slice Try.underlying22 hv
  obtain ⟨fuel, hf⟩ := h
  obtain ⟨u, l, hu, hr⟩ := open_cells (R := fun cs (z : UInt8) => cs = [Value.int .u8 (z.toNat : Int)] ∧ True) (by decide) Try.underlying22 (by kernel_rfl : Try.prog.cellsOf 5 = 1) hf (fun n cs y _ hy => by
    obtain ⟨z, e, _, wf⟩ := DataW.trod_int Try.underlying5 hy
    have hz : 0 ≤ z ∧ z < 256 := by
      simp [Lit.wf, IntKind.min, IntKind.max, IntKind.signed, IntKind.bits] at wf
      omega
    refine ⟨UInt8.ofNat z.toNat, ?_, trivial⟩
    rw [e]
    have : ((UInt8.ofNat z.toNat).toNat : Int) = z := by simp; omega
    rw [this])
  simp only [Value.cells, List.cons.injEq, and_true] at hu
  subst hu
  obtain ⟨A, c, e, h1, h2, rd⟩ := hr.rows.1
  refine ⟨l, A, c, e, h1, h2, ?_⟩
  have : bv l = l.flatMap (fun z => [Value.int .u8 (z.toNat : Int)]) := by
    unfold bv
    rw [List.map_eq_flatMap]
  rw [this]; exact rd
theorem big_yes (A : Option Addr) (l c : Nat) (w : World) (h : 1048576 < l) : Calls Try.prog 5 #[.slice A l c] w fun e w' => e = .returned (.bool true) ∧ w = w' := by
  have h1 : (1048576 : Int) < (l : Int) := by omega
  go_enter Try.func5, Try.ntmps5
  go_wp2_with fail
  go_ret
  exact ⟨rfl, rfl⟩
theorem big_no (A : Option Addr) (l c : Nat) (w : World) (h : ¬ 1048576 < l) : Calls Try.prog 5 #[.slice A l c] w fun e w' => e = .returned (.bool false) ∧ w = w' := by
  have h1 : ¬ (1048576 : Int) < (l : Int) := by omega
  go_enter Try.func5, Try.ntmps5
  go_wp2_with fail
  go_ret
  exact ⟨rfl, rfl⟩
/-- what keeps all but the cursor, with what is written in blocks made since -/
theorem Keep.fresh {p : Nat} {w w' : World} (h : Keep (fun b => b ≠ p) w w') : Keep (fun b => b ≠ p ∧ b < w.heap.size) w w' := ⟨h.os, h.tape, h.output, h.size, fun k hk hS => h.block k hk hS.1⟩
theorem Keep.old {p n : Nat} {w w' : World} (h : Keep (fun b => b ≠ p ∧ b < n) w w') (hn : w.heap.size ≤ n) : Keep (fun b => b ≠ p) w w' := ⟨h.os, h.tape, h.output, h.size, fun k hk hS => h.block k hk ⟨hS, by omega⟩⟩
theorem Keep.setNew {p n : Nat} {w w' : World} (h : Keep (fun b => b ≠ p ∧ b < n) w w') {a : Addr} (ha : n ≤ a.block) (u : Value) : Keep (fun b => b ≠ p ∧ b < n) w (w'.setCell a u) := h.setCell (fun hS => by have := hS.2; omega) u
theorem CurAt.setNew {w : World} {p : Nat} {A : Option Addr} {c : Nat} {code : List UInt8} {k : Cur} (h : CurAt w p A c code k) {a : Addr} (ha : a.block ≠ p) (u : Value) : CurAt (w.setCell a u) p A c code k := ⟨(Below.heap_setCell w a u p (fun e => ha e.symm)).trans h.at', h.le⟩
def pickI (zs : List Int) (x : Int) : Int := zs[x.toNat]?.getD 0
def pickS (ss : List ByteArray) (x : Int) : ByteArray := ss[x.toNat]?.getD ByteArray.empty
theorem pickI_mem {zs : List Int} {x : Int} (h : x.toNat < zs.length) : pickI zs x ∈ zs := by
  unfold pickI
  rw [List.getElem?_eq_getElem h]
  exact List.getElem_mem h
theorem pickS_mem {ss : List ByteArray} {x : Int} (h : x.toNat < ss.length) : pickS ss x ∈ ss := by
  unfold pickS
  rw [List.getElem?_eq_getElem h]
  exact List.getElem_mem h
set_option maxHeartbeats 800000 in
theorem spec_l01PickInt (zs : List Int) (hz : 0 < zs.length) (hz2 : zs.length ≤ 256) (b p : Nat) (hbp : b ≠ p) (A : Option Addr) (c : Nat) (code : List UInt8) (k : Cur) (w : World) (rz : Rd w 1 (some ⟨b, 0, none⟩) zs.length (zs.map (Value.int .i64))) (rd : Rd w 1 A code.length (bv code)) (hl : code.length ≤ 1048576) (hc : c ≤ maxLen) (hk : CurAt w p A c code k) :
    Calls Try.prog 119 #[.pointer (some ⟨p, 0, none⟩), .slice (some ⟨b, 0, none⟩) zs.length zs.length] w fun e w' => e = .returned (.int .i64 (pickI zs (belowD code (zs.length : Int) k).1)) ∧ CurAt w' p A c code (belowD code (zs.length : Int) k).2 ∧ Keep (fun b => b ≠ p) w w' := by
  have RD := Lib.hid rd
  have HK := Lib.hid hk
  have RZ := Lib.hid rz
  have hbd := belowD_bd code (n := (zs.length : Int)) (by omega) k
  clear rd hk rz
  go_enter Try.func119, Try.ntmps119
  go_wp2_with fail
  refine (spec_l01Below (zs.length : Int) p A c code k _ RD.out hl hc HK.out (by omega)).mono ?_
  rintro e w1 ⟨rfl, k1, kp1⟩
  have K1 := Lib.hid k1
  have P1 := Lib.hid kp1
  clear k1 kp1
  generalize hx : belowD code (zs.length : Int) k = y at *
  obtain ⟨x, k'⟩ := y
  have HX := Lib.hid hx
  clear hx
  simp only at hbd K1
  obtain ⟨h0, h1⟩ := hbd
  have hlt : x.toNat < zs.length := by omega
  obtain ⟨b', off', e', hcell⟩ := RZ.out.2 hz
  injection e' with e'
  injection e' with e1 e2
  subst e1 e2
  have hcl := P1.out.cellEq (p := ⟨b, 0 + x.toNat, none⟩) hbp (hcell x.toNat (.int .i64 zs[x.toNat]) (by simp [hlt]))
  have hpk : pickI zs x = zs[x.toNat] := by unfold pickI; rw [List.getElem?_eq_getElem hlt]; rfl
  have HP := Lib.hid hpk
  rw [Nat.zero_add] at hcl
  clear hcell hpk
  go_wp2_with fail
  go_ret
  rw [HX.out]
  exact ⟨by rw [HP.out]; rfl, K1.out, P1.out⟩
set_option maxHeartbeats 800000 in
theorem spec_l01Pick (ss : List ByteArray) (hz : 0 < ss.length) (hz2 : ss.length ≤ 256) (b p : Nat) (hbp : b ≠ p) (A : Option Addr) (c : Nat) (code : List UInt8) (k : Cur) (w : World) (rz : Rd w 1 (some ⟨b, 0, none⟩) ss.length (ss.map Value.string)) (rd : Rd w 1 A code.length (bv code)) (hl : code.length ≤ 1048576) (hc : c ≤ maxLen) (hk : CurAt w p A c code k) :
    Calls Try.prog 95 #[.pointer (some ⟨p, 0, none⟩), .slice (some ⟨b, 0, none⟩) ss.length ss.length] w fun e w' => e = .returned (.string (pickS ss (belowD code (ss.length : Int) k).1)) ∧ CurAt w' p A c code (belowD code (ss.length : Int) k).2 ∧ Keep (fun b => b ≠ p) w w' := by
  have RD := Lib.hid rd
  have HK := Lib.hid hk
  have RZ := Lib.hid rz
  have hbd := belowD_bd code (n := (ss.length : Int)) (by omega) k
  clear rd hk rz
  go_enter Try.func95, Try.ntmps95
  go_wp2_with fail
  refine (spec_l01Below (ss.length : Int) p A c code k _ RD.out hl hc HK.out (by omega)).mono ?_
  rintro e w1 ⟨rfl, k1, kp1⟩
  have K1 := Lib.hid k1
  have P1 := Lib.hid kp1
  clear k1 kp1
  generalize hx : belowD code (ss.length : Int) k = y at *
  obtain ⟨x, k'⟩ := y
  have HX := Lib.hid hx
  clear hx
  simp only at hbd K1
  obtain ⟨h0, h1⟩ := hbd
  have hlt : x.toNat < ss.length := by omega
  obtain ⟨b', off', e', hcell⟩ := RZ.out.2 hz
  injection e' with e'
  injection e' with e1 e2
  subst e1 e2
  have hcl := P1.out.cellEq (p := ⟨b, 0 + x.toNat, none⟩) hbp (hcell x.toNat (.string ss[x.toNat]) (by simp [hlt]))
  have hpk : pickS ss x = ss[x.toNat] := by unfold pickS; rw [List.getElem?_eq_getElem hlt]; rfl
  have HP := Lib.hid hpk
  rw [Nat.zero_add] at hcl
  clear hcell hpk
  go_wp2_with fail
  go_ret
  rw [HX.out]
  exact ⟨by rw [HP.out]; rfl, K1.out, P1.out⟩

inductive Tm where
  | mk (kind num : Int) (name : ByteArray) (kids : List Tm)
def Tm.kind : Tm → Int | .mk k _ _ _ => k
def Tm.num : Tm → Int | .mk _ n _ _ => n
def Tm.name : Tm → ByteArray | .mk _ _ s _ => s
def Tm.kids : Tm → List Tm | .mk _ _ _ l => l
mutual
/-- how many terms it is, itself too -/
def nodes : Tm → Nat | .mk _ _ _ kids => 1 + nodess kids
def nodess : List Tm → Nat | [] => 0 | t :: r => nodes t + nodess r
end
theorem nodess_le {l : List Tm} {x : Tm} (h : x ∈ l) : nodes x ≤ nodess l := by
  induction l with
  | nil => cases h
  | cons y r ih =>
    rw [nodess]
    rcases List.mem_cons.1 h with rfl | h
    · omega
    · have := ih h; omega
theorem kid_lt {k n : Int} {s : ByteArray} {kids : List Tm} {x : Tm} (h : x ∈ kids) : nodes x < nodes (Tm.mk k n s kids) := by
  have := nodess_le h
  rw [nodes]
  omega
mutual
/-- names' letters and kids, all the way down -/
def totT : Tm → Nat | .mk _ _ s kids => s.size + totTs kids
def totTs : List Tm → Nat | [] => 0 | t :: r => 1 + totT t + totTs r
end
def i64in (n : Int) : Prop := -9223372036854775808 ≤ n ∧ n ≤ 9223372036854775807
/-- the four cells of a term; F is asked of each block in which kids lie -/
inductive TmIs (F : Nat → Prop) (w : World) : List Value → Tm → Prop
  | mk (k n : Int) (s : ByteArray) (A : Option Addr) (c : Nat) (cs : List Value) (kids : List Tm) (hk : i64in k) (hn : i64in n) (hs : s.size ≤ maxLen) (hl : kids.length ≤ c) (hc : c ≤ maxLen) (rd : Rd w 4 A kids.length cs)
      (hF : ∀ b off, A = some ⟨b, off, none⟩ → 0 < kids.length → F b) (hx : ∀ i (h : i < kids.length), TmIs F w ((cs.drop (i * 4)).take 4) kids[i]) : TmIs F w [.int .i64 k, .int .i64 n, .string s, .slice A kids.length c] (.mk k n s kids)
/-- a row of terms -/
def TmRow (F : Nat → Prop) (w : World) (A : Option Addr) (ts : List Tm) : Prop :=
  ∃ cs, Rd w 4 A ts.length cs ∧ (∀ b off, A = some ⟨b, off, none⟩ → 0 < ts.length → F b) ∧ ∀ i (h : i < ts.length), TmIs F w ((cs.drop (i * 4)).take 4) ts[i]
theorem TmIs.inv {F : Nat → Prop} {w : World} {k n : Int} {s : ByteArray} {A : Option Addr} {m c : Nat} {t : Tm} (h : TmIs F w [.int .i64 k, .int .i64 n, .string s, .slice A m c] t) :
    ∃ kids, t = .mk k n s kids ∧ m = kids.length ∧ kids.length ≤ c ∧ c ≤ maxLen ∧ i64in k ∧ i64in n ∧ s.size ≤ maxLen ∧ TmRow F w A kids := by
  cases h with
  | mk _ _ _ _ _ cs kids hk hn hs hl hc rd hF hx => exact ⟨kids, rfl, rfl, hl, hc, hk, hn, hs, cs, rd, hF, hx⟩
theorem TmIs.mk' {F : Nat → Prop} {w : World} {k n : Int} {s : ByteArray} {A : Option Addr} {c : Nat} {kids : List Tm} (hk : i64in k) (hn : i64in n) (hs : s.size ≤ maxLen) (hl : kids.length ≤ c) (hc : c ≤ maxLen) (row : TmRow F w A kids) :
    TmIs F w [.int .i64 k, .int .i64 n, .string s, .slice A kids.length c] (.mk k n s kids) := by
  obtain ⟨cs, rd, hF, hx⟩ := row
  exact .mk k n s A c cs kids hk hn hs hl hc rd hF hx
theorem TmIs.form {F : Nat → Prop} {w : World} {cs : List Value} {t : Tm} (h : TmIs F w cs t) : ∃ k n s A m c, cs = [.int .i64 k, .int .i64 n, .string s, .slice A m c] := by
  cases h with
  | mk k n s A c cs kids hk hn hs hl hc rd hF hx => exact ⟨k, n, s, A, _, c, rfl⟩
theorem TmIs.keep {F F' : Nat → Prop} {w w' : World} {cs : List Value} {t : Tm} (h : TmIs F w cs t) (hk : ∀ p : Addr, p.block < w.heap.size → F p.block → w'.cell? p = w.cell? p) (hF : ∀ b, b < w.heap.size → F b → F' b) : TmIs F' w' cs t := by
  induction h with
  | mk k n s A c cs kids h1 h2 h3 hl hc rd hf hx ih =>
    refine .mk k n s A c cs kids h1 h2 h3 hl hc ⟨rd.1, fun hn => ?_⟩ (fun b off e hn => ?_) ih
    · obtain ⟨b, off, e, hcell⟩ := rd.2 hn
      exact ⟨b, off, e, fun j u hu => (hk _ (cell_lt (hcell j u hu)) (hf b off e hn)).trans (hcell j u hu)⟩
    · obtain ⟨b', off', e', hcell⟩ := rd.2 hn
      rw [e'] at e
      injection e with e
      injection e with e1 e2
      subst e1 e2
      refine hF _ ?_ (hf _ _ e' hn)
      have h0 : 0 < cs.length := by rw [rd.1]; omega
      exact cell_lt (hcell 0 _ (List.getElem?_eq_getElem h0))
theorem TmRow.keep {F F' : Nat → Prop} {w w' : World} {A : Option Addr} {ts : List Tm} (h : TmRow F w A ts) (hk : ∀ p : Addr, p.block < w.heap.size → F p.block → w'.cell? p = w.cell? p) (hF : ∀ b, b < w.heap.size → F b → F' b) : TmRow F' w' A ts := by
  obtain ⟨cs, rd, hf, hx⟩ := h
  refine ⟨cs, ⟨rd.1, fun hn => ?_⟩, fun b off e hn => ?_, fun i hi => (hx i hi).keep hk hF⟩
  · obtain ⟨b, off, e, hcell⟩ := rd.2 hn
    exact ⟨b, off, e, fun j u hu => (hk _ (cell_lt (hcell j u hu)) (hf b off e hn)).trans (hcell j u hu)⟩
  · obtain ⟨b', off', e', hcell⟩ := rd.2 hn
    rw [e'] at e
    injection e with e
    injection e with e1 e2
    subst e1 e2
    refine hF _ ?_ (hf _ _ e' hn)
    have h0 : 0 < cs.length := by rw [rd.1]; omega
    exact cell_lt (hcell 0 _ (List.getElem?_eq_getElem h0))
/-- any block at all -/
abbrev AnyB : Nat → Prop := fun _ => True
/-- blocks made since lo, of plain cells -/
def Fr (lo : Nat) (w : World) : Nat → Prop := fun b => lo ≤ b ∧ ∃ cur e, w.heap[b]? = some (.cells cur e (0, 0))
theorem TmIs.any {F : Nat → Prop} {w : World} {cs : List Value} {t : Tm} (h : TmIs F w cs t) : TmIs AnyB w cs t := h.keep (fun _ _ _ => rfl) (fun _ _ _ => trivial)
theorem TmRow.any {F : Nat → Prop} {w : World} {A : Option Addr} {ts : List Tm} (h : TmRow F w A ts) : TmRow AnyB w A ts := h.keep (fun _ _ _ => rfl) (fun _ _ _ => trivial)
theorem TmIs.belowA {w w' : World} {cs : List Value} {t : Tm} (h : TmIs AnyB w cs t) (hb : Below w.heap.size w w') : TmIs AnyB w' cs t := h.keep (fun _ hp _ => hb.cell hp) (fun _ _ _ => trivial)
theorem TmRow.belowA {w w' : World} {A : Option Addr} {ts : List Tm} (h : TmRow AnyB w A ts) (hb : Below w.heap.size w w') : TmRow AnyB w' A ts := h.keep (fun _ hp _ => hb.cell hp) (fun _ _ _ => trivial)
theorem TmIs.drew {w : World} {cs : List Value} {t : Tm} (h : TmIs AnyB w cs t) : TmIs AnyB w.drew cs t := h.belowA (Below.refl _ _).drew
theorem TmRow.drew {w : World} {A : Option Addr} {ts : List Tm} (h : TmRow AnyB w A ts) : TmRow AnyB w.drew A ts := h.belowA (Below.refl _ _).drew
theorem Fr.below {lo : Nat} {w w' : World} (hb : Below w.heap.size w w') : ∀ b, b < w.heap.size → Fr lo w b → Fr lo w' b := fun b hlt ⟨h1, cur, e, h2⟩ => ⟨h1, cur, e, (hb.block b hlt).trans h2⟩
theorem TmIs.mono {lo lo' : Nat} {w : World} {cs : List Value} {t : Tm} (h : TmIs (Fr lo w) w cs t) (hl : lo' ≤ lo) : TmIs (Fr lo' w) w cs t := h.keep (fun _ _ _ => rfl) (fun b _ ⟨h1, h2⟩ => ⟨by omega, h2⟩)
/-- the cells of element k of a row -/
theorem rd_term {F : Nat → Prop} {w : World} {A : Option Addr} {ts : List Tm} (row : TmRow F w A ts) {k : Nat} (hk : k < ts.length) :
    ∃ b off kd n s A' m c, A = some ⟨b, off, none⟩ ∧ F b ∧ w.cell? ⟨b, off + k * 4, none⟩ = some (.int .i64 kd) ∧ w.cell? ⟨b, off + k * 4 + 1, none⟩ = some (.int .i64 n) ∧ w.cell? ⟨b, off + k * 4 + 2, none⟩ = some (.string s) ∧ w.cell? ⟨b, off + k * 4 + 3, none⟩ = some (.slice A' m c) ∧
      TmIs F w [.int .i64 kd, .int .i64 n, .string s, .slice A' m c] ts[k] := by
  obtain ⟨cs, rd, hF, hx⟩ := row
  obtain ⟨b, off, e, hc⟩ := rd.2 (by omega)
  have h := hx k hk
  obtain ⟨kd, n, s, A', m, c, e1⟩ := h.form
  rw [e1] at h
  exact ⟨b, off, kd, n, s, A', m, c, e, hF b off e (by omega), hc _ _ ((chunk_get (r := 0) (by omega) e1).trans rfl), hc _ _ ((chunk_get (r := 1) (by omega) e1).trans rfl), hc _ _ ((chunk_get (r := 2) (by omega) e1).trans rfl), hc _ _ ((chunk_get (r := 3) (by omega) e1).trans rfl), h⟩
/-- whether two terms are the same -/
noncomputable def sameB (a b : Tm) : Bool := @decide (a = b) (Classical.propDecidable _)
theorem sameB_yes {a b : Tm} (h : a = b) : sameB a b = true := by unfold sameB; exact @decide_eq_true _ (Classical.propDecidable _) h
theorem sameB_no {a b : Tm} (h : a ≠ b) : sameB a b = false := by unfold sameB; exact @decide_eq_false _ (Classical.propDecidable _) h
theorem sameB_true {a b : Tm} (h : sameB a b = true) : a = b := Classical.byContradiction fun hn => by rw [sameB_no hn] at h; cases h
theorem sameB_false {a b : Tm} (h : sameB a b = false) : a ≠ b := fun e => by rw [sameB_yes e] at h; cases h
end Go.Proofs.Ytadcebdhgocmhaa
