/- Lemmas for the row. -/
import Derived.Test.YtnmblfonmfjoeaaGreatDoorKc30
namespace Go.Proofs.YtnmblfonmfjoeaaGreatDoor
open Go.RowKit
set_option linter.unusedVariables false
def Shp (w w' : World) : Prop := ∀ (b : Nat) (cur : Array Value) (e : TypeId) (z : Nat × Nat), w.heap[b]? = some (Obj.cells cur e z) → ∃ cur' : Array Value, w'.heap[b]? = some (Obj.cells cur' e z) ∧ cur'.size = cur.size
theorem Shp.refl (w : World) : Shp w w := fun b cur e z h => ⟨cur, h, rfl⟩
theorem Shp.trans {a b c : World} (h : Shp a b) (k : Shp b c) : Shp a c := fun i cur e z hi => by
 obtain ⟨c1, h1, e1⟩ := h i cur e z hi
 obtain ⟨c2, h2, e2⟩ := k i c1 e z h1
 exact ⟨c2, h2, e2.trans e1⟩
theorem Shp.set (w : World) (b o : Nat) (u : Value) : Shp w (w.setCell ⟨b, o, none⟩ u) := fun i cur e z hi => by
 by_cases hb : i = b
 ·subst hb
  exact ⟨cur.setIfInBounds o u, by simp [World.setCell, Array.getElem?_modify, hi], by simp⟩
 ·exact ⟨cur, (Below.heap_setCell w ⟨b, o, none⟩ u i hb).trans hi, rfl⟩
theorem Shp.cur {w w' : World} {p : Nat} {A : Option Addr} {c : Nat} {code : List UInt8} {k k' : Cur} (h : CurAt w p A c code k) (h' : CurAt w' p A c code k') (hk : Keep (fun b => b ≠ p) w w') : Shp w w' := fun i cur e z hi => by
 by_cases hb : i = p
 ·subst hb
  have := h.at'
  rw [hi] at this
  injection this with this
  injection this with a1 a2 a3
  subst a1 a2 a3
  exact ⟨_, h'.at', rfl⟩
 ·exact ⟨cur, (hk.block i (lt_of_block hi) hb).trans hi, rfl⟩
def RetFx (w : World) (p : Nat) (A : Option Addr) (c : Nat) (code : List UInt8) (F : Nat → Prop) (Al : Option Addr) (cl n : Nat) (r : List St × Cur) (e : Ending) (w' : World) : Prop :=
 e = .returned (.slice Al n cl) ∧ StRowO w' F Al r.1 ∧ CurAt w' p A c code r.2 ∧ Keep (fun b => ¬ F b ∧ b ≠ p) w w' ∧ Shp w w'
abbrev FxC (l : List St) : Prop := ∀ (ns : List ByteArray) (q qo nc p : Nat) (A : Option Addr) (c : Nat) (code : List UInt8) (k : Cur) (F : Nat → Prop) (Al : Option Addr) (cl : Nat) (w : World),
 0 < ns.length → ns.length ≤ 200 → (∀ s ∈ ns, s.size ≤ maxLen) → Rd w 1 (some ⟨q, qo, none⟩) ns.length (ns.map Value.string) → ¬ F q → q ≠ p →
 Rd w 1 A code.length (bv code) → (∀ b off, A = some ⟨b, off, none⟩ → 0 < code.length → ¬ F b) → code.length ≤ 1048576 → c ≤ maxLen → CurAt w p A c code k → ¬ F p →
 StRowO w F Al l → (∀ b, F b → b < w.heap.size) → l.length ≤ cl → cl ≤ maxLen →
 Calls Tryz.prog 43 #[.pointer (some ⟨p, 0, none⟩), .slice Al l.length cl, .slice (some ⟨q, qo, none⟩) ns.length nc] w (RetFx w p A c code F Al cl l.length (fixGs code ns l k))
theorem Rd.keepB {w w' : World} {sz n : Nat} {A : Option Addr} {xs : List Value} {S : Nat → Prop} (h : Rd w sz A n xs) (hk : Keep S w w') (hS : ∀ b off, A = some ⟨b, off, none⟩ → S b) : Rd w' sz A n xs := by
 refine ⟨h.1, fun hn => ?_⟩
 obtain ⟨b, off, e, hc⟩ := h.2 hn
 exact ⟨b, off, e, fun j u hu => hk.cellEq (p := ⟨b, off + j, none⟩) (hS b off e) (hc j u hu)⟩
theorem Rd.setB {w : World} {sz n : Nat} {A : Option Addr} {xs : List Value} (h : Rd w sz A n xs) {b o : Nat} {u : Value} (hS : ∀ b' off, A = some ⟨b', off, none⟩ → 0 < n → b' ≠ b) : Rd (w.setCell ⟨b, o, none⟩ u) sz A n xs := by
 refine ⟨h.1, fun hn => ?_⟩
 obtain ⟨b', off, e, hc⟩ := h.2 hn
 exact ⟨b', off, e, fun j v hv => (World.cell?_setCell_other _ _ _ _ (fun e' => by injection e' with e' _; exact hS b' off e hn e'.symm)).trans (hc j v hv)⟩
theorem rd_keepX {w w' : World} {p : Nat} {A : Option Addr} {c : Nat} {code : List UInt8} {k : Cur} {F : Nat → Prop} (rd : Rd w 1 A code.length (bv code)) (hA : ∀ b off, A = some ⟨b, off, none⟩ → 0 < code.length → ¬ F b) (h : CurAt w p A c code k) (hk : Keep (fun b => ¬ F b ∧ b ≠ p) w w') : Rd w' 1 A code.length (bv code) := by
 rcases Nat.eq_zero_or_pos code.length with h0 | h0
 ·exact ⟨rd.1, fun hn => absurd hn (by omega)⟩
 refine rd.keepB hk fun b off e => ⟨hA b off e h0, fun ebp => ?_⟩
 obtain ⟨b', off', e', hc⟩ := rd.2 h0
 rw [e] at e'
 injection e' with e'
 injection e' with e1 e2
 subst e1 e2 ebp
 obtain ⟨u0, hu⟩ : ∃ u, (bv code)[0]? = some u := ⟨_, List.getElem?_eq_getElem (by rw [rd.1]; omega)⟩
 have hcw := hc 0 _ hu
 simp only [World.cell?, h.at'] at hcw
 obtain ⟨x, _, hx⟩ := List.mem_map.1 (List.mem_of_getElem? hu)
 rw [← hx] at hcw
 rcases (show off + 0 = 0 ∨ off + 0 = 1 ∨ off + 0 = 2 ∨ 3 ≤ off + 0 by omega) with e | e | e | e
 ·rw [e] at hcw; simp at hcw
 ·rw [e] at hcw; simp at hcw
 ·rw [e] at hcw; simp at hcw
 ·obtain ⟨hlt3, _⟩ := Array.getElem?_eq_some_iff.1 hcw
  simp at hlt3
  omega
theorem fx_close {code : List UInt8} {ns : List ByteArray} {l : List St} {k : Cur} {j : Nat} {F G T B E : Nat → Prop} {b off p : Nat} {Al : Option Addr} {wr u0 u1 u3 : World} {xk : Int} {xs s1 : ByteArray} {tk tn : Int} {ts : ByteArray} {tA : Option Addr} {tm tc : Nat} {bA : Option Addr} {bc : Nat} {eA : Option Addr} {ec : Nat} {t : Tm} {body els body' els' : List St}
  (hlt : j < l.length) (hFp : ¬ F p)
  (hback : ∀ (w' : World) (cells' : List Value) (x' : St), cells'.length = 8 → (∃ cur e, w'.heap[b]? = some (.cells cur e (0, 0))) → (∀ r u, cells'[r]? = some u → w'.cell? ⟨b, off + j * 8 + r, none⟩ = some u) → (∀ o, o < off + j * 8 ∨ off + j * 8 + 8 ≤ o → w'.cell? ⟨b, o, none⟩ = wr.cell? ⟨b, o, none⟩) → (∀ y, F y → y ≠ b → ¬ G y → w'.heap[y]? = wr.heap[y]?) → StP w' G cells' x' → RowOf StP w' F 8 Al ((mixF code ns l k j).set j x'))
  (hFb : F b) (hpl : ∃ cur e, wr.heap[b]? = some (.cells cur e (0, 0))) (hGF : ∀ x, G x → F x ∧ x ≠ b) (hFw : ∀ y, F y → y < wr.heap.size)
  (d : ∀ r u, (V8.cells ⟨xk, xs, tk, tn, ts, tA, tm, tc, bA, body.length, bc, eA, els.length, ec⟩)[r]? = some u → wr.cell? ⟨b, off + j * 8 + r, none⟩ = some u)
  (hk : i64in xk) (hs : s1.size ≤ maxLen) (hT : TmO wr T [.int .i64 tk, .int .i64 tn, .string ts, .slice tA tm tc] t)
  (sT : ∀ b, T b → G b) (sB : ∀ b, B b → G b) (sE : ∀ b, E b → G b) (dTB : ∀ b, T b → B b → False) (dTE : ∀ b, T b → E b → False) (dBE : ∀ b, B b → E b → False)
  (hb1 : body'.length = body.length) (hb2 : body.length ≤ bc) (hb3 : bc ≤ maxLen) (he1 : els'.length = els.length) (he2 : els.length ≤ ec) (he3 : ec ≤ maxLen)
  (hz0 : wr.heap.size ≤ u0.heap.size) (h0b : ∀ o, o ≠ off + j * 8 + 1 → u0.cell? ⟨b, o, none⟩ = wr.cell? ⟨b, o, none⟩) (h0n : u0.cell? ⟨b, off + j * 8 + 1, none⟩ = some (.string s1)) (h0p : ∃ cur e, u0.heap[b]? = some (.cells cur e (0, 0)))
  (h0k : ∀ y, y < wr.heap.size → y ≠ b → y ≠ p → u0.heap[y]? = wr.heap[y]?)
  (hos : u0.os = wr.os ∧ u0.tape = wr.tape ∧ u0.output = wr.output)
  (k1 : Keep (fun y => ¬ B y ∧ y ≠ p) u0 u1) (r1 : StRowO u1 B bA body')
  (k3 : Keep (fun y => ¬ E y ∧ y ≠ p) (u1.setCell ⟨b, off + j * 8 + 6, none⟩ (.slice bA body.length bc)) u3) (r3 : StRowO u3 E eA els')
  (hx : (fixG code ns l[j] (fixGs code ns (l.take j) k).2).1 = .mk xk s1 t body' els') :
  StRowO (u3.setCell ⟨b, off + j * 8 + 7, none⟩ (.slice eA els.length ec)) F Al (mixF code ns l k (j + 1)) ∧ Keep (fun y => ¬ F y ∧ y ≠ p) wr (u3.setCell ⟨b, off + j * 8 + 7, none⟩ (.slice eA els.length ec)) := by
 have hbp : b ≠ p := fun e => hFp (e ▸ hFb)
 have hpw : ∀ y, F y → y ≠ p := fun y hy e => hFp (e ▸ hy)
 have hbw := hFw b hFb
 have nb : ¬ B b := fun h => (hGF b (sB b h)).2 rfl
 have ne : ¬ E b := fun h => (hGF b (sE b h)).2 rfl
 have z1 := k1.size
 have z3 := k3.size
 have zs : ∀ (W : World) (a : Addr) (v : Value), (W.setCell a v).heap.size = W.heap.size := fun _ _ _ => by simp
 rw [zs] at z3
 have c1 : ∀ o, u1.cell? ⟨b, o, none⟩ = u0.cell? ⟨b, o, none⟩ := fun o => k1.cell (p := ⟨b, o, none⟩) (by show b < _; omega) ⟨nb, hbp⟩
 have c3 : ∀ o, u3.cell? ⟨b, o, none⟩ = (u1.setCell ⟨b, off + j * 8 + 6, none⟩ (.slice bA body.length bc)).cell? ⟨b, o, none⟩ := fun o => k3.cell (p := ⟨b, o, none⟩) (by show b < _; rw [zs]; omega) ⟨ne, hbp⟩
 have e6 : u1.cell? ⟨b, off + j * 8 + 6, none⟩ = some (.slice bA body.length bc) := by rw [c1, h0b _ (by omega)]; exact d 6 _ rfl
 have c3' : ∀ o, o ≠ off + j * 8 + 6 → u3.cell? ⟨b, o, none⟩ = u0.cell? ⟨b, o, none⟩ := fun o ho => by
  rw [c3, World.cell?_setCell_other _ _ _ _ (fun e => by injection e with _ e; exact ho e.symm), c1]
 have e7 : u3.cell? ⟨b, off + j * 8 + 7, none⟩ = some (.slice eA els.length ec) := by rw [c3' _ (by omega), h0b _ (by omega)]; exact d 7 _ rfl
 have c4 : ∀ o, o ≠ off + j * 8 + 6 → o ≠ off + j * 8 + 7 → (u3.setCell ⟨b, off + j * 8 + 7, none⟩ (.slice eA els.length ec)).cell? ⟨b, o, none⟩ = u0.cell? ⟨b, o, none⟩ := fun o h6 h7 => by
  rw [World.cell?_setCell_other _ _ _ _ (fun e => by injection e with _ e; exact h7 e.symm), c3' o h6]
 have k13 : ∀ y, y < wr.heap.size → y ≠ b → y ≠ p → ¬ B y → ¬ E y → (u3.setCell ⟨b, off + j * 8 + 7, none⟩ (.slice eA els.length ec)).heap[y]? = wr.heap[y]? := fun y hy hb hp hB hE => by
  rw [Below.heap_setCell _ _ _ _ hb, k3.block y (by rw [zs]; omega) ⟨hE, hp⟩, Below.heap_setCell _ _ _ _ hb, k1.block y (by omega) ⟨hB, hp⟩, h0k y hy hb hp]
 constructor
 ·rw [← mixF_set code ns l k hlt, hx]
  refine hback _ (V8.cells ⟨xk, s1, tk, tn, ts, tA, tm, tc, bA, body.length, bc, eA, els.length, ec⟩) _ rfl ?_ ?_ ?_ ?_ ?_
  ·obtain ⟨cur, ty, h⟩ := h0p
   have q1 := (k1.block b (by omega) ⟨nb, hbp⟩).trans h
   obtain ⟨cur2, ty2, q2⟩ := plain_set ⟨cur, ty, q1⟩ b (off + j * 8 + 6) (.slice bA body.length bc)
   exact plain_set ⟨cur2, ty2, (k3.block b (by rw [zs]; omega) ⟨ne, hbp⟩).trans q2⟩ b _ _
  ·intro r u hu
   match r, hu with
   | 0, hu => rw [c4 _ (by omega) (by omega), h0b _ (by omega)]; exact d 0 u hu
   | 1, hu => injection hu with hu; subst hu; rw [c4 _ (by omega) (by omega)]; exact h0n
   | 2, hu => rw [c4 _ (by omega) (by omega), h0b _ (by omega)]; exact d 2 u hu
   | 3, hu => rw [c4 _ (by omega) (by omega), h0b _ (by omega)]; exact d 3 u hu
   | 4, hu => rw [c4 _ (by omega) (by omega), h0b _ (by omega)]; exact d 4 u hu
   | 5, hu => rw [c4 _ (by omega) (by omega), h0b _ (by omega)]; exact d 5 u hu
   | 6, hu =>
    injection hu with hu; subst hu
    rw [World.cell?_setCell_other _ _ _ _ (by simp), c3]
    exact World.cell?_setCell_same _ _ _ e6
   | 7, hu => injection hu with hu; subst hu; exact World.cell?_setCell_same _ _ _ e7
   | r + 8, hu => simp [V8.cells] at hu
  ·intro o ho
   rw [c4 o (by omega) (by omega), h0b o (by omega)]
  ·intro y hy hyb hG
   exact k13 y (hFw y hy) hyb (hpw y hy) (fun h => hG (sB y h)) (fun h => hG (sE y h))
  ·have ct : TmO (u3.setCell ⟨b, off + j * 8 + 7, none⟩ (.slice eA els.length ec)) T [.int .i64 tk, .int .i64 tn, .string ts, .slice tA tm tc] t := hT.keep fun y hy => by
    have hg := hGF y (sT y hy)
    exact k13 y (hFw y hg.1) hg.2 (hpw y hg.1) (fun h => dTB y hy h) (fun h => dTE y hy h)
   have cb : StRowO (u3.setCell ⟨b, off + j * 8 + 7, none⟩ (.slice eA els.length ec)) B bA body' := r1.keep fun y hy => by
    have hg := hGF y (sB y hy)
    rw [Below.heap_setCell _ _ _ _ hg.2, k3.block y (by have := hFw y hg.1; rw [zs]; omega) ⟨fun h => dBE y hy h, hpw y hg.1⟩, Below.heap_setCell _ _ _ _ hg.2]
   have ce : StRowO (u3.setCell ⟨b, off + j * 8 + 7, none⟩ (.slice eA els.length ec)) E eA els' := r3.keep fun y hy => Below.heap_setCell _ _ _ _ (hGF y (sE y hy)).2
   exact ⟨_, rfl, StO.mk' (F := G) (T := T) (B := B) (E := E) (x := ⟨xk, s1, tk, tn, ts, tA, tm, tc, bA, body.length, bc, eA, els.length, ec⟩) hk hs ct hb1.symm (by rw [hb1]; exact hb2) hb3 cb he1.symm (by rw [he1]; exact he2) he3 ce sT sB sE dTB dTE dBE⟩
 ·have q0 : Keep (fun y => ¬ F y ∧ y ≠ p) wr u0 := ⟨hos.1, hos.2.1, hos.2.2, hz0, fun y hy hS => h0k y hy (fun e => hS.1 (e ▸ hFb)) hS.2⟩
  have q1 := q0.trans k1 (fun y _ h => ⟨fun hb => h.1 (hGF y (sB y hb)).1, h.2⟩)
  have q2 := (q1.setCell (p := ⟨b, off + j * 8 + 6, none⟩) (fun h => h.1 hFb) (.slice bA body.length bc)).trans k3 (fun y _ h => ⟨fun hb => h.1 (hGF y (sE y hb)).1, h.2⟩)
  exact q2.setCell (p := ⟨b, off + j * 8 + 7, none⟩) (fun h => h.1 hFb) _
set_option maxHeartbeats 3200000 in
set_option maxRecDepth 100000 in
theorem spec_l05Fix_at (l : List St) (ih : ∀ g ∈ l, ∀ k s t body els, g = .mk k s t body els → FxC body ∧ FxC els) : FxC l := by
 intro ns q qo nc p A c code k F Al cl w hn0 hn1 hns rq hFq hqp rd hFA hcl hc hk hFp row hF hl hc'
 unfold maxLen at hc'
 have IH := qh ih
 have RQ := qh rq
 have RD := qh rd
 have NS := qh hns
 have HFA := qh hFA
 have HK := qh hk
 have RW := qh row
 have HF := qh hF
 clear ih rq rd hns hFA hk row hF
 have HRet : Hid (∀ w', StRowO w' F Al (fixGs code ns l k).1 → CurAt w' p A c code (fixGs code ns l k).2 → Keep (fun b => ¬ F b ∧ b ≠ p) w w' → Shp w w' → RetFx w p A c code F Al cl l.length (fixGs code ns l k) (.returned (.slice Al l.length cl)) w') := qh fun w' h1 h2 h3 h4 => ⟨rfl, h1, h2, h3, h4⟩
 have HMA := qh (fun (j : Nat) (h : l.length ≤ j) => mixF_all code ns l k h)
 generalize hRR : RetFx w p A c code F Al cl l.length (fixGs code ns l k) = RR at *
 clear hRR
 go_enter Tryz.func43, Tryz.ntmps43
 go_wp2_with fail
 go_loopw [7] (fun i wr => ∃ j : Nat, j ≤ l.length ∧ i = .int .i64 j ∧ Hid (StRowO wr F Al (mixF code ns l k j) ∧ CurAt wr p A c code (fixGs code ns (l.take j) k).2 ∧ Keep (fun b => ¬ F b ∧ b ≠ p) w wr ∧ Shp w wr)) (fun i _ => l.length - (intOf i).toNat)
 case atStart => exact ⟨0, Nat.zero_le _, rfl, qh ⟨by rw [mixF_zero]; exact RW.out, HK.out, Keep.refl _ _, Shp.refl _⟩⟩
 case round =>
  obtain ⟨j, hj, rfl, HR⟩ := hrel
  by_cases hlt : j < l.length
  case neg =>
   go_wp2_with fail
   show RR (.returned (.slice Al l.length cl)) wr
   obtain ⟨hrow, hcur, hkeep, hsh⟩ := HR.out
   rw [HMA.out j (by omega)] at hrow
   rw [List.take_of_length_le (by omega)] at hcur
   exact HRet.out _ hrow hcur hkeep hsh
  clear HRet HMA
  obtain ⟨hrow, hcur, hkeep, hsh⟩ := HR.out
  have hlm := mixF_len code ns l k hj
  have hjm : j < (mixF code ns l k j).length := by omega
  obtain ⟨b, off, G, cells, rfl, hcl', hcell, ⟨x, rfl, hP⟩, hFb, hpl, hGF, hback⟩ := RowOf.focus (P := StP) StP.keepP hrow hjm
  rw [mixF_get code ns l k hlt hjm] at hP
  obtain ⟨T, B, E, t, body, els, heq, hki, hss, hT, hb1, hb2, hb3, hB, he1, he2, he3, hE, sT, sB, sE, dTB, dTE, dBE⟩ := hP.inv
  obtain ⟨xk, xs, tk, tn, ts, tA, tm, tc, bA, bm, bc, eA, em, ec⟩ := x
  simp only at hb1 he1 hb2 hb3 he2 he3 hB hE hki hss heq hT
  subst hb1 he1
  have d0 := hcell 0 _ rfl
  have d6 := hcell 6 _ rfl
  have d7 := hcell 7 _ rfl
  have d1 := hcell 1 _ rfl
  simp only [Nat.add_zero] at d0
  have hlb := cell_lt d0
  have VB := qh (IH.out l[j] (List.getElem_mem hlt) _ _ _ body els heq).1
  have VE := qh (IH.out l[j] (List.getElem_mem hlt) _ _ _ body els heq).2
  have hbp : b ≠ p := fun e => hFp (e ▸ hFb)
  have DC := qh hcell
  have HQ := qh heq
  have CU := qh hcur
  have KP := qh hkeep
  have SH := qh hsh
  have HPL := qh hpl
  have HBACK := qh hback
  have HGF := qh hGF
  have HB' := qh hB
  have HE' := qh hE
  have HT' := qh hT
  have SS := qh (And.intro sT (And.intro sB sE))
  have DD := qh (And.intro dTB (And.intro dTE dBE))
  have HFW : Hid (∀ y, F y → y < wr.heap.size) := qh fun y hy => Nat.lt_of_lt_of_le (HF.out y hy) hkeep.size
  have HFB := qh hFb
  have RDr := qh (rd_keepX RD.out HFA.out HK.out hkeep)
  have RQr : Hid (Rd wr 1 (some ⟨q, qo, none⟩) ns.length (ns.map Value.string)) := qh (RQ.out.keepB hkeep (by intro b' off' e; injection e with e; injection e with e1 e2; subst e1; exact ⟨hFq, hqp⟩))
  have HKI := qh hki
  have HSS := qh hss
  have h0k : (0 : Int) ≤ (j : Int) := by omega
  have hqF : q ≠ b := fun e => hFq (e ▸ HFB.out)
  have FW := qh (fun (kk : Int) (h : kk = 4 ∨ kk = 5) => fixG_word code ns h)
  have FO := qh (fun (kk : Int) (h : ¬ (kk = 4 ∨ kk = 5)) => fixG_other code ns h)
  have XE : Hid ((fixGs code ns (l.take (j + 1)) k).2 = (fixG code ns l[j] (fixGs code ns (l.take j) k).2).2) := qh (by rw [fixGs_take code ns l k j hlt])
  generalize hK0 : (fixGs code ns (l.take j) k).2 = kj at *
  have HK0 := qh hK0
  clear hK0 hrow hkeep hback hGF hcell hcl' hP heq hlm hpl hFb HR hT hB hE sT sB sE dTB dTE dBE hcur hsh hki hss d1
  by_cases h4 : xk = 4
  ·subst h4
   go_wp2_with fail
   refine (spec_l01Below (ns.length : Int) p A c code kj _ RDr.out hcl hc CU.out (by omega)).mono ?_
   rintro e w1 ⟨rfl, k1, kp1⟩
   have hbd := belowD_bd code (n := (ns.length : Int)) (by omega) kj
   have HXX := qh (FW.out 4 (by omega) xs t body els kj)
   have C1 := qh k1
   have Q1 := qh kp1
   have SHB := qh (Shp.cur CU.out k1 kp1)
   have hzw1 := kp1.size
   generalize hx : belowD code (ns.length : Int) kj = y at *
   obtain ⟨x, kc⟩ := y
   have HX := qh hx
   clear hx k1 kp1
   simp only at hbd C1 HXX
   obtain ⟨h0, h1⟩ := hbd
   have hxl : x.toNat < ns.length := by omega
   obtain ⟨b', off', e', hcell⟩ := RQr.out.2 hn0
   injection e' with e'
   injection e' with e1 e2
   subst e1 e2
   have hq0 := Q1.out.cellEq (p := ⟨q, qo + x.toNat, none⟩) hqp (hcell x.toNat (.string ns[x.toNat]) (by simp [hxl]))
   have HPK : Hid (pickS ns x = ns[x.toNat]) := qh (by unfold pickS; rw [List.getElem?_eq_getElem hxl]; rfl)
   have PW1 : Hid (∃ cur e, w1.heap[b]? = some (.cells cur e (0, 0))) := qh (by obtain ⟨cur, ty, h⟩ := HPL.out; exact ⟨cur, ty, (Q1.out.block b (lt_of_block h) hbp).trans h⟩)
   have f1 := plain_free PW1.out (off + j * 8 + 1)
   have n1 := Q1.out.cellEq (p := ⟨b, off + j * 8 + 1, none⟩) hbp (DC.out 1 _ rfl)
   have b6 : (w1.setCell ⟨b, off + j * 8 + 1, none⟩ (.string ns[x.toNat])).cell? ⟨b, off + j * 8 + 6, none⟩ = some (.slice bA body.length bc) := by rw [World.cell?_setCell_other _ _ _ _ (by simp)]; exact Q1.out.cellEq (p := ⟨b, off + j * 8 + 6, none⟩) hbp d6
   have b7 : (w1.setCell ⟨b, off + j * 8 + 1, none⟩ (.string ns[x.toNat])).cell? ⟨b, off + j * 8 + 7, none⟩ = some (.slice eA els.length ec) := by rw [World.cell?_setCell_other _ _ _ _ (by simp)]; exact Q1.out.cellEq (p := ⟨b, off + j * 8 + 7, none⟩) hbp d7
   clear hcell d6 d7
   go_wp2_with fail
   generalize hU0 : w1.setCell ⟨b, off + j * 8 + 1, none⟩ (.string ns[x.toNat]) = u0 at *
   have HU0 := qh hU0
   have HZ0 : Hid (wr.heap.size ≤ u0.heap.size) := qh (by rw [← hU0]; simpa using hzw1)
   have H0B : Hid (∀ o, o ≠ off + j * 8 + 1 → u0.cell? ⟨b, o, none⟩ = wr.cell? ⟨b, o, none⟩) := qh fun o ho => by
    rw [← HU0.out, World.cell?_setCell_other _ _ _ _ (fun e => by injection e with _ e; exact ho e.symm)]
    exact Q1.out.cell (p := ⟨b, o, none⟩) hlb hbp
   have H0N : Hid (u0.cell? ⟨b, off + j * 8 + 1, none⟩ = some (.string ns[x.toNat])) := qh (by rw [← HU0.out]; exact World.cell?_setCell_same _ _ _ n1)
   have HP0 : Hid (∃ cur e, u0.heap[b]? = some (.cells cur e (0, 0))) := qh (by rw [← HU0.out]; exact plain_set PW1.out b _ _)
   have H0K : Hid (∀ y, y < wr.heap.size → y ≠ b → y ≠ p → u0.heap[y]? = wr.heap[y]?) := qh fun y hy hb hp => by rw [← HU0.out, Below.heap_setCell _ _ _ _ hb]; exact Q1.out.block y hy hp
   have HOS : Hid (u0.os = wr.os ∧ u0.tape = wr.tape ∧ u0.output = wr.output) := qh (by rw [← HU0.out]; exact ⟨Q1.out.os, Q1.out.tape, Q1.out.output⟩)
   have SH0 : Hid (Shp wr u0) := qh (SHB.out.trans (by rw [← HU0.out]; exact Shp.set _ _ _ _))
   have CU0 : Hid (CurAt u0 p A c code kc) := qh (by rw [← HU0.out]; exact C1.out.setNew hbp _)
   have RD0 : Hid (Rd u0 1 A code.length (bv code)) := qh (by rw [← HU0.out]; exact (rd_apart RDr.out CU.out Q1.out).setB (fun b' off' e hn hb => HFA.out b' off' e hn (hb ▸ HFB.out)))
   have RQ0 : Hid (Rd u0 1 (some ⟨q, qo, none⟩) ns.length (ns.map Value.string)) := qh (by rw [← HU0.out]; exact (RQr.out.keepB Q1.out (by intro b' off' e; injection e with e; injection e with e1 e2; subst e1; exact hqp)).setB (by intro b' off' e _; injection e with e; injection e with e1 e2; subst e1; exact hqF))
   have hG0 : Hid (∀ y, G y → u0.heap[y]? = wr.heap[y]?) := qh fun y hy => H0K.out y (HFW.out y (HGF.out y hy).1) (HGF.out y hy).2 (fun e => hFp (e ▸ (HGF.out y hy).1))
   have RB0 : Hid (StRowO u0 B bA body) := qh (HB'.out.keep fun y hy => hG0.out y (SS.out.2.1 y hy))
   have RE0 : Hid (StRowO u0 E eA els) := qh (HE'.out.keep fun y hy => hG0.out y (SS.out.2.2 y hy))
   have hsz1 : ns[x.toNat].size ≤ maxLen := NS.out _ (List.getElem_mem hxl)
   rw [HPK.out] at HXX
   clear hU0 d0 n1 hq0 f1
   refine (VB.out ns q qo nc p A c code kc B bA bc u0 hn0 hn1 NS.out RQ0.out (fun h => hFq (HGF.out q (SS.out.2.1 q h)).1) hqp RD0.out (fun b' off' e hn h => HFA.out b' off' e hn (HGF.out b' (SS.out.2.1 b' h)).1) hcl hc CU0.out (fun h => hFp (HGF.out p (SS.out.2.1 p h)).1) RB0.out (fun y hy => by have := HFW.out y (HGF.out y (SS.out.2.1 y hy)).1; have := HZ0.out; omega) hb2 hb3).mono ?_
   rintro e u1 ⟨rfl, r1, cu1, k1, sh1⟩
   have R1 := qh r1
   have CU1 := qh cu1
   have K1 := qh k1
   have SH1 := qh sh1
   have nB : ¬ B b := fun h => (HGF.out b (SS.out.2.1 b h)).2 rfl
   have nE : ¬ E b := fun h => (HGF.out b (SS.out.2.2 b h)).2 rfl
   have hz1 := k1.size
   have a6 : u1.cell? ⟨b, off + j * 8 + 6, none⟩ = some (.slice bA body.length bc) := k1.cellEq (p := ⟨b, off + j * 8 + 6, none⟩) ⟨nB, hbp⟩ b6
   have a7 : u1.cell? ⟨b, off + j * 8 + 7, none⟩ = some (.slice eA els.length ec) := k1.cellEq (p := ⟨b, off + j * 8 + 7, none⟩) ⟨nB, hbp⟩ b7
   have P1 : Hid (∃ cur e, u1.heap[b]? = some (.cells cur e (0, 0))) := qh (by obtain ⟨cur, ty, h⟩ := HP0.out; exact ⟨cur, ty, (k1.block b (lt_of_block h) ⟨nB, hbp⟩).trans h⟩)
   have f6 := plain_free P1.out (off + j * 8 + 6)
   have W1 : Hid (∀ u : Value, CurAt (u1.setCell ⟨b, off + j * 8 + 6, none⟩ u) p A c code (fixGs code ns body kc).2) := qh fun u => CU1.out.setNew hbp u
   have RD1 : Hid (Rd (u1.setCell ⟨b, off + j * 8 + 6, none⟩ (.slice bA body.length bc)) 1 A code.length (bv code)) := qh ((rd_keepX RD0.out (fun b' off' e hn h => HFA.out b' off' e hn (HGF.out b' (SS.out.2.1 b' h)).1) CU0.out k1).setB (fun b' off' e hn hb => HFA.out b' off' e hn (hb ▸ HFB.out)))
   have RQ1 : Hid (Rd (u1.setCell ⟨b, off + j * 8 + 6, none⟩ (.slice bA body.length bc)) 1 (some ⟨q, qo, none⟩) ns.length (ns.map Value.string)) := qh ((RQ0.out.keepB k1 (by intro b' off' e; injection e with e; injection e with e1 e2; subst e1; exact ⟨fun h => hFq (HGF.out q (SS.out.2.1 q h)).1, hqp⟩)).setB (by intro b' off' e _; injection e with e; injection e with e1 e2; subst e1; exact hqF))
   have RE1 : Hid (StRowO (u1.setCell ⟨b, off + j * 8 + 6, none⟩ (.slice bA body.length bc)) E eA els) := qh (((RE0.out.keep fun y hy => k1.block y (by have := HFW.out y (HGF.out y (SS.out.2.2 y hy)).1; have := HZ0.out; omega) ⟨fun h => DD.out.2.2 y h hy, fun e => hFp (e ▸ (HGF.out y (SS.out.2.2 y hy)).1)⟩)).set (fun h => nE h) _)
   have SS1 : Hid (Shp u0 (u1.setCell ⟨b, off + j * 8 + 6, none⟩ (.slice bA body.length bc))) := qh (sh1.trans (Shp.set _ _ _ _))
   clear r1 cu1 k1 sh1 b6 b7
   go_wp2_with fail
   have a7' : (u1.setCell ⟨b, off + j * 8 + 6, none⟩ (.slice bA body.length bc)).cell? ⟨b, off + j * 8 + 7, none⟩ = some (.slice eA els.length ec) := by rw [World.cell?_setCell_other _ _ _ _ (by simp)]; exact a7
   have hz2 : (u1.setCell ⟨b, off + j * 8 + 6, none⟩ (.slice bA body.length bc)).heap.size = u1.heap.size := by simp
   refine (VE.out ns q qo nc p A c code (fixGs code ns body kc).2 E eA ec _ hn0 hn1 NS.out RQ1.out (fun h => hFq (HGF.out q (SS.out.2.2 q h)).1) hqp RD1.out (fun b' off' e hn h => HFA.out b' off' e hn (HGF.out b' (SS.out.2.2 b' h)).1) hcl hc (W1.out _) (fun h => hFp (HGF.out p (SS.out.2.2 p h)).1) RE1.out (fun y hy => by have := HFW.out y (HGF.out y (SS.out.2.2 y hy)).1; have := HZ0.out; omega) he2 he3).mono ?_
   rintro e u3 ⟨rfl, r3, cu3, k3, sh3⟩
   have CL := fx_close (code := code) (ns := ns) (l := l) (k := k) (j := j) (p := p) hlt hFp HBACK.out HFB.out HPL.out HGF.out HFW.out DC.out HKI.out hsz1 HT'.out SS.out.1 SS.out.2.1 SS.out.2.2 DD.out.1 DD.out.2.1 DD.out.2.2 (fixGs_len code ns body kc) hb2 hb3 (fixGs_len code ns els (fixGs code ns body kc).2) he2 he3 HZ0.out H0B.out H0N.out HP0.out H0K.out HOS.out K1.out R1.out k3 r3 (by rw [HK0.out, HQ.out, HXX.out])
   have RN := qh CL.1
   have KN := qh (KP.out.trans CL.2 (fun _ _ h => h))
   have SN : Hid (∀ u : Value, Shp w (u3.setCell ⟨b, off + j * 8 + 7, none⟩ u)) := qh fun u => (((SH.out.trans SH0.out).trans SS1.out).trans sh3).trans (Shp.set _ _ _ _)
   have C3 := qh cu3
   have a7 : u3.cell? ⟨b, off + j * 8 + 7, none⟩ = some (.slice eA els.length ec) := k3.cellEq (p := ⟨b, off + j * 8 + 7, none⟩) ⟨nE, hbp⟩ a7'
   have P3 : Hid (∃ cur e, u3.heap[b]? = some (.cells cur e (0, 0))) := qh (by obtain ⟨cur, ty, h⟩ := plain_set P1.out b (off + j * 8 + 6) (.slice bA body.length bc); exact ⟨cur, ty, (k3.block b (lt_of_block h) ⟨nE, hbp⟩).trans h⟩)
   have f7 := plain_free P3.out (off + j * 8 + 7)
   clear CL r3 cu3 k3 sh3 a7'
   go_wp2_with fail
   go_roundw
   case rel => exact ⟨j + 1, by omega, by go_num, qh ⟨RN.out, by rw [XE.out, HQ.out, HXX.out]; exact C3.out.setNew hbp _, KN.out, SN.out _⟩⟩
   case measure => simp [intOf]; omega
  by_cases h5 : xk = 5
  ·subst h5
   go_wp2_with fail
   refine (spec_l01Below (ns.length : Int) p A c code kj _ RDr.out hcl hc CU.out (by omega)).mono ?_
   rintro e w1 ⟨rfl, k1, kp1⟩
   have hbd := belowD_bd code (n := (ns.length : Int)) (by omega) kj
   have HXX := qh (FW.out 5 (by omega) xs t body els kj)
   have C1 := qh k1
   have Q1 := qh kp1
   have SHB := qh (Shp.cur CU.out k1 kp1)
   have hzw1 := kp1.size
   generalize hx : belowD code (ns.length : Int) kj = y at *
   obtain ⟨x, kc⟩ := y
   have HX := qh hx
   clear hx k1 kp1
   simp only at hbd C1 HXX
   obtain ⟨h0, h1⟩ := hbd
   have hxl : x.toNat < ns.length := by omega
   obtain ⟨b', off', e', hcell⟩ := RQr.out.2 hn0
   injection e' with e'
   injection e' with e1 e2
   subst e1 e2
   have hq0 := Q1.out.cellEq (p := ⟨q, qo + x.toNat, none⟩) hqp (hcell x.toNat (.string ns[x.toNat]) (by simp [hxl]))
   have HPK : Hid (pickS ns x = ns[x.toNat]) := qh (by unfold pickS; rw [List.getElem?_eq_getElem hxl]; rfl)
   have PW1 : Hid (∃ cur e, w1.heap[b]? = some (.cells cur e (0, 0))) := qh (by obtain ⟨cur, ty, h⟩ := HPL.out; exact ⟨cur, ty, (Q1.out.block b (lt_of_block h) hbp).trans h⟩)
   have f1 := plain_free PW1.out (off + j * 8 + 1)
   have n1 := Q1.out.cellEq (p := ⟨b, off + j * 8 + 1, none⟩) hbp (DC.out 1 _ rfl)
   have b6 : (w1.setCell ⟨b, off + j * 8 + 1, none⟩ (.string ns[x.toNat])).cell? ⟨b, off + j * 8 + 6, none⟩ = some (.slice bA body.length bc) := by rw [World.cell?_setCell_other _ _ _ _ (by simp)]; exact Q1.out.cellEq (p := ⟨b, off + j * 8 + 6, none⟩) hbp d6
   have b7 : (w1.setCell ⟨b, off + j * 8 + 1, none⟩ (.string ns[x.toNat])).cell? ⟨b, off + j * 8 + 7, none⟩ = some (.slice eA els.length ec) := by rw [World.cell?_setCell_other _ _ _ _ (by simp)]; exact Q1.out.cellEq (p := ⟨b, off + j * 8 + 7, none⟩) hbp d7
   clear hcell d6 d7
   go_wp2_with fail
   generalize hU0 : w1.setCell ⟨b, off + j * 8 + 1, none⟩ (.string ns[x.toNat]) = u0 at *
   have HU0 := qh hU0
   have HZ0 : Hid (wr.heap.size ≤ u0.heap.size) := qh (by rw [← hU0]; simpa using hzw1)
   have H0B : Hid (∀ o, o ≠ off + j * 8 + 1 → u0.cell? ⟨b, o, none⟩ = wr.cell? ⟨b, o, none⟩) := qh fun o ho => by
    rw [← HU0.out, World.cell?_setCell_other _ _ _ _ (fun e => by injection e with _ e; exact ho e.symm)]
    exact Q1.out.cell (p := ⟨b, o, none⟩) hlb hbp
   have H0N : Hid (u0.cell? ⟨b, off + j * 8 + 1, none⟩ = some (.string ns[x.toNat])) := qh (by rw [← HU0.out]; exact World.cell?_setCell_same _ _ _ n1)
   have HP0 : Hid (∃ cur e, u0.heap[b]? = some (.cells cur e (0, 0))) := qh (by rw [← HU0.out]; exact plain_set PW1.out b _ _)
   have H0K : Hid (∀ y, y < wr.heap.size → y ≠ b → y ≠ p → u0.heap[y]? = wr.heap[y]?) := qh fun y hy hb hp => by rw [← HU0.out, Below.heap_setCell _ _ _ _ hb]; exact Q1.out.block y hy hp
   have HOS : Hid (u0.os = wr.os ∧ u0.tape = wr.tape ∧ u0.output = wr.output) := qh (by rw [← HU0.out]; exact ⟨Q1.out.os, Q1.out.tape, Q1.out.output⟩)
   have SH0 : Hid (Shp wr u0) := qh (SHB.out.trans (by rw [← HU0.out]; exact Shp.set _ _ _ _))
   have CU0 : Hid (CurAt u0 p A c code kc) := qh (by rw [← HU0.out]; exact C1.out.setNew hbp _)
   have RD0 : Hid (Rd u0 1 A code.length (bv code)) := qh (by rw [← HU0.out]; exact (rd_apart RDr.out CU.out Q1.out).setB (fun b' off' e hn hb => HFA.out b' off' e hn (hb ▸ HFB.out)))
   have RQ0 : Hid (Rd u0 1 (some ⟨q, qo, none⟩) ns.length (ns.map Value.string)) := qh (by rw [← HU0.out]; exact (RQr.out.keepB Q1.out (by intro b' off' e; injection e with e; injection e with e1 e2; subst e1; exact hqp)).setB (by intro b' off' e _; injection e with e; injection e with e1 e2; subst e1; exact hqF))
   have hG0 : Hid (∀ y, G y → u0.heap[y]? = wr.heap[y]?) := qh fun y hy => H0K.out y (HFW.out y (HGF.out y hy).1) (HGF.out y hy).2 (fun e => hFp (e ▸ (HGF.out y hy).1))
   have RB0 : Hid (StRowO u0 B bA body) := qh (HB'.out.keep fun y hy => hG0.out y (SS.out.2.1 y hy))
   have RE0 : Hid (StRowO u0 E eA els) := qh (HE'.out.keep fun y hy => hG0.out y (SS.out.2.2 y hy))
   have hsz1 : ns[x.toNat].size ≤ maxLen := NS.out _ (List.getElem_mem hxl)
   rw [HPK.out] at HXX
   clear hU0 d0 n1 hq0 f1
   refine (VB.out ns q qo nc p A c code kc B bA bc u0 hn0 hn1 NS.out RQ0.out (fun h => hFq (HGF.out q (SS.out.2.1 q h)).1) hqp RD0.out (fun b' off' e hn h => HFA.out b' off' e hn (HGF.out b' (SS.out.2.1 b' h)).1) hcl hc CU0.out (fun h => hFp (HGF.out p (SS.out.2.1 p h)).1) RB0.out (fun y hy => by have := HFW.out y (HGF.out y (SS.out.2.1 y hy)).1; have := HZ0.out; omega) hb2 hb3).mono ?_
   rintro e u1 ⟨rfl, r1, cu1, k1, sh1⟩
   have R1 := qh r1
   have CU1 := qh cu1
   have K1 := qh k1
   have SH1 := qh sh1
   have nB : ¬ B b := fun h => (HGF.out b (SS.out.2.1 b h)).2 rfl
   have nE : ¬ E b := fun h => (HGF.out b (SS.out.2.2 b h)).2 rfl
   have hz1 := k1.size
   have a6 : u1.cell? ⟨b, off + j * 8 + 6, none⟩ = some (.slice bA body.length bc) := k1.cellEq (p := ⟨b, off + j * 8 + 6, none⟩) ⟨nB, hbp⟩ b6
   have a7 : u1.cell? ⟨b, off + j * 8 + 7, none⟩ = some (.slice eA els.length ec) := k1.cellEq (p := ⟨b, off + j * 8 + 7, none⟩) ⟨nB, hbp⟩ b7
   have P1 : Hid (∃ cur e, u1.heap[b]? = some (.cells cur e (0, 0))) := qh (by obtain ⟨cur, ty, h⟩ := HP0.out; exact ⟨cur, ty, (k1.block b (lt_of_block h) ⟨nB, hbp⟩).trans h⟩)
   have f6 := plain_free P1.out (off + j * 8 + 6)
   have W1 : Hid (∀ u : Value, CurAt (u1.setCell ⟨b, off + j * 8 + 6, none⟩ u) p A c code (fixGs code ns body kc).2) := qh fun u => CU1.out.setNew hbp u
   have RD1 : Hid (Rd (u1.setCell ⟨b, off + j * 8 + 6, none⟩ (.slice bA body.length bc)) 1 A code.length (bv code)) := qh ((rd_keepX RD0.out (fun b' off' e hn h => HFA.out b' off' e hn (HGF.out b' (SS.out.2.1 b' h)).1) CU0.out k1).setB (fun b' off' e hn hb => HFA.out b' off' e hn (hb ▸ HFB.out)))
   have RQ1 : Hid (Rd (u1.setCell ⟨b, off + j * 8 + 6, none⟩ (.slice bA body.length bc)) 1 (some ⟨q, qo, none⟩) ns.length (ns.map Value.string)) := qh ((RQ0.out.keepB k1 (by intro b' off' e; injection e with e; injection e with e1 e2; subst e1; exact ⟨fun h => hFq (HGF.out q (SS.out.2.1 q h)).1, hqp⟩)).setB (by intro b' off' e _; injection e with e; injection e with e1 e2; subst e1; exact hqF))
   have RE1 : Hid (StRowO (u1.setCell ⟨b, off + j * 8 + 6, none⟩ (.slice bA body.length bc)) E eA els) := qh (((RE0.out.keep fun y hy => k1.block y (by have := HFW.out y (HGF.out y (SS.out.2.2 y hy)).1; have := HZ0.out; omega) ⟨fun h => DD.out.2.2 y h hy, fun e => hFp (e ▸ (HGF.out y (SS.out.2.2 y hy)).1)⟩)).set (fun h => nE h) _)
   have SS1 : Hid (Shp u0 (u1.setCell ⟨b, off + j * 8 + 6, none⟩ (.slice bA body.length bc))) := qh (sh1.trans (Shp.set _ _ _ _))
   clear r1 cu1 k1 sh1 b6 b7
   go_wp2_with fail
   have a7' : (u1.setCell ⟨b, off + j * 8 + 6, none⟩ (.slice bA body.length bc)).cell? ⟨b, off + j * 8 + 7, none⟩ = some (.slice eA els.length ec) := by rw [World.cell?_setCell_other _ _ _ _ (by simp)]; exact a7
   have hz2 : (u1.setCell ⟨b, off + j * 8 + 6, none⟩ (.slice bA body.length bc)).heap.size = u1.heap.size := by simp
   refine (VE.out ns q qo nc p A c code (fixGs code ns body kc).2 E eA ec _ hn0 hn1 NS.out RQ1.out (fun h => hFq (HGF.out q (SS.out.2.2 q h)).1) hqp RD1.out (fun b' off' e hn h => HFA.out b' off' e hn (HGF.out b' (SS.out.2.2 b' h)).1) hcl hc (W1.out _) (fun h => hFp (HGF.out p (SS.out.2.2 p h)).1) RE1.out (fun y hy => by have := HFW.out y (HGF.out y (SS.out.2.2 y hy)).1; have := HZ0.out; omega) he2 he3).mono ?_
   rintro e u3 ⟨rfl, r3, cu3, k3, sh3⟩
   have CL := fx_close (code := code) (ns := ns) (l := l) (k := k) (j := j) (p := p) hlt hFp HBACK.out HFB.out HPL.out HGF.out HFW.out DC.out HKI.out hsz1 HT'.out SS.out.1 SS.out.2.1 SS.out.2.2 DD.out.1 DD.out.2.1 DD.out.2.2 (fixGs_len code ns body kc) hb2 hb3 (fixGs_len code ns els (fixGs code ns body kc).2) he2 he3 HZ0.out H0B.out H0N.out HP0.out H0K.out HOS.out K1.out R1.out k3 r3 (by rw [HK0.out, HQ.out, HXX.out])
   have RN := qh CL.1
   have KN := qh (KP.out.trans CL.2 (fun _ _ h => h))
   have SN : Hid (∀ u : Value, Shp w (u3.setCell ⟨b, off + j * 8 + 7, none⟩ u)) := qh fun u => (((SH.out.trans SH0.out).trans SS1.out).trans sh3).trans (Shp.set _ _ _ _)
   have C3 := qh cu3
   have a7 : u3.cell? ⟨b, off + j * 8 + 7, none⟩ = some (.slice eA els.length ec) := k3.cellEq (p := ⟨b, off + j * 8 + 7, none⟩) ⟨nE, hbp⟩ a7'
   have P3 : Hid (∃ cur e, u3.heap[b]? = some (.cells cur e (0, 0))) := qh (by obtain ⟨cur, ty, h⟩ := plain_set P1.out b (off + j * 8 + 6) (.slice bA body.length bc); exact ⟨cur, ty, (k3.block b (lt_of_block h) ⟨nE, hbp⟩).trans h⟩)
   have f7 := plain_free P3.out (off + j * 8 + 7)
   clear CL r3 cu3 k3 sh3 a7'
   go_wp2_with fail
   go_roundw
   case rel => exact ⟨j + 1, by omega, by go_num, qh ⟨RN.out, by rw [XE.out, HQ.out, HXX.out]; exact C3.out.setNew hbp _, KN.out, SN.out _⟩⟩
   case measure => simp [intOf]; omega
  have hk4 : (xk == 4) = false := beq_eq_false_iff_ne.2 h4
  have hk5 : (xk == 5) = false := beq_eq_false_iff_ne.2 h5
  have HXX := qh (FO.out xk (show ¬ (xk = 4 ∨ xk = 5) by omega) xs t body els kj)
  have HZ0 : Hid (wr.heap.size ≤ wr.heap.size) := qh (Nat.le_refl _)
  have H0B : Hid (∀ o, o ≠ off + j * 8 + 1 → wr.cell? ⟨b, o, none⟩ = wr.cell? ⟨b, o, none⟩) := qh fun o ho => rfl
  have H0N : Hid (wr.cell? ⟨b, off + j * 8 + 1, none⟩ = some (.string xs)) := qh (DC.out 1 _ rfl)
  have HP0 := HPL
  have H0K : Hid (∀ y, y < wr.heap.size → y ≠ b → y ≠ p → wr.heap[y]? = wr.heap[y]?) := qh fun y hy hb hp => rfl
  have HOS : Hid (wr.os = wr.os ∧ wr.tape = wr.tape ∧ wr.output = wr.output) := qh ⟨rfl, rfl, rfl⟩
  have SH0 : Hid (Shp wr wr) := qh (Shp.refl _)
  have CU0 := CU
  have RD0 := RDr
  have RQ0 := RQr
  have RB0 := HB'
  have RE0 := HE'
  have b6 := d6
  have b7 := d7
  have hsz1 : xs.size ≤ maxLen := HSS.out
  clear d6 d7
  go_wp2_with fail
  refine (VB.out ns q qo nc p A c code kj B bA bc wr hn0 hn1 NS.out RQ0.out (fun h => hFq (HGF.out q (SS.out.2.1 q h)).1) hqp RD0.out (fun b' off' e hn h => HFA.out b' off' e hn (HGF.out b' (SS.out.2.1 b' h)).1) hcl hc CU0.out (fun h => hFp (HGF.out p (SS.out.2.1 p h)).1) RB0.out (fun y hy => by have := HFW.out y (HGF.out y (SS.out.2.1 y hy)).1; have := HZ0.out; omega) hb2 hb3).mono ?_
  rintro e u1 ⟨rfl, r1, cu1, k1, sh1⟩
  have R1 := qh r1
  have CU1 := qh cu1
  have K1 := qh k1
  have SH1 := qh sh1
  have nB : ¬ B b := fun h => (HGF.out b (SS.out.2.1 b h)).2 rfl
  have nE : ¬ E b := fun h => (HGF.out b (SS.out.2.2 b h)).2 rfl
  have hz1 := k1.size
  have a6 : u1.cell? ⟨b, off + j * 8 + 6, none⟩ = some (.slice bA body.length bc) := k1.cellEq (p := ⟨b, off + j * 8 + 6, none⟩) ⟨nB, hbp⟩ b6
  have a7 : u1.cell? ⟨b, off + j * 8 + 7, none⟩ = some (.slice eA els.length ec) := k1.cellEq (p := ⟨b, off + j * 8 + 7, none⟩) ⟨nB, hbp⟩ b7
  have P1 : Hid (∃ cur e, u1.heap[b]? = some (.cells cur e (0, 0))) := qh (by obtain ⟨cur, ty, h⟩ := HP0.out; exact ⟨cur, ty, (k1.block b (lt_of_block h) ⟨nB, hbp⟩).trans h⟩)
  have f6 := plain_free P1.out (off + j * 8 + 6)
  have W1 : Hid (∀ u : Value, CurAt (u1.setCell ⟨b, off + j * 8 + 6, none⟩ u) p A c code (fixGs code ns body kj).2) := qh fun u => CU1.out.setNew hbp u
  have RD1 : Hid (Rd (u1.setCell ⟨b, off + j * 8 + 6, none⟩ (.slice bA body.length bc)) 1 A code.length (bv code)) := qh ((rd_keepX RD0.out (fun b' off' e hn h => HFA.out b' off' e hn (HGF.out b' (SS.out.2.1 b' h)).1) CU0.out k1).setB (fun b' off' e hn hb => HFA.out b' off' e hn (hb ▸ HFB.out)))
  have RQ1 : Hid (Rd (u1.setCell ⟨b, off + j * 8 + 6, none⟩ (.slice bA body.length bc)) 1 (some ⟨q, qo, none⟩) ns.length (ns.map Value.string)) := qh ((RQ0.out.keepB k1 (by intro b' off' e; injection e with e; injection e with e1 e2; subst e1; exact ⟨fun h => hFq (HGF.out q (SS.out.2.1 q h)).1, hqp⟩)).setB (by intro b' off' e _; injection e with e; injection e with e1 e2; subst e1; exact hqF))
  have RE1 : Hid (StRowO (u1.setCell ⟨b, off + j * 8 + 6, none⟩ (.slice bA body.length bc)) E eA els) := qh (((RE0.out.keep fun y hy => k1.block y (by have := HFW.out y (HGF.out y (SS.out.2.2 y hy)).1; have := HZ0.out; omega) ⟨fun h => DD.out.2.2 y h hy, fun e => hFp (e ▸ (HGF.out y (SS.out.2.2 y hy)).1)⟩)).set (fun h => nE h) _)
  have SS1 : Hid (Shp wr (u1.setCell ⟨b, off + j * 8 + 6, none⟩ (.slice bA body.length bc))) := qh (sh1.trans (Shp.set _ _ _ _))
  clear r1 cu1 k1 sh1 b6 b7
  go_wp2_with fail
  have a7' : (u1.setCell ⟨b, off + j * 8 + 6, none⟩ (.slice bA body.length bc)).cell? ⟨b, off + j * 8 + 7, none⟩ = some (.slice eA els.length ec) := by rw [World.cell?_setCell_other _ _ _ _ (by simp)]; exact a7
  have hz2 : (u1.setCell ⟨b, off + j * 8 + 6, none⟩ (.slice bA body.length bc)).heap.size = u1.heap.size := by simp
  refine (VE.out ns q qo nc p A c code (fixGs code ns body kj).2 E eA ec _ hn0 hn1 NS.out RQ1.out (fun h => hFq (HGF.out q (SS.out.2.2 q h)).1) hqp RD1.out (fun b' off' e hn h => HFA.out b' off' e hn (HGF.out b' (SS.out.2.2 b' h)).1) hcl hc (W1.out _) (fun h => hFp (HGF.out p (SS.out.2.2 p h)).1) RE1.out (fun y hy => by have := HFW.out y (HGF.out y (SS.out.2.2 y hy)).1; have := HZ0.out; omega) he2 he3).mono ?_
  rintro e u3 ⟨rfl, r3, cu3, k3, sh3⟩
  have CL := fx_close (code := code) (ns := ns) (l := l) (k := k) (j := j) (p := p) hlt hFp HBACK.out HFB.out HPL.out HGF.out HFW.out DC.out HKI.out hsz1 HT'.out SS.out.1 SS.out.2.1 SS.out.2.2 DD.out.1 DD.out.2.1 DD.out.2.2 (fixGs_len code ns body kj) hb2 hb3 (fixGs_len code ns els (fixGs code ns body kj).2) he2 he3 (Nat.le_refl _) (fun _ _ => rfl) (DC.out 1 _ rfl) HPL.out (fun _ _ _ _ => rfl) ⟨rfl, rfl, rfl⟩ K1.out R1.out k3 r3 (by rw [HK0.out, HQ.out, HXX.out])
  have RN := qh CL.1
  have KN := qh (KP.out.trans CL.2 (fun _ _ h => h))
  have SN : Hid (∀ u : Value, Shp w (u3.setCell ⟨b, off + j * 8 + 7, none⟩ u)) := qh fun u => (((SH.out.trans SH0.out).trans SS1.out).trans sh3).trans (Shp.set _ _ _ _)
  have C3 := qh cu3
  have a7 : u3.cell? ⟨b, off + j * 8 + 7, none⟩ = some (.slice eA els.length ec) := k3.cellEq (p := ⟨b, off + j * 8 + 7, none⟩) ⟨nE, hbp⟩ a7'
  have P3 : Hid (∃ cur e, u3.heap[b]? = some (.cells cur e (0, 0))) := qh (by obtain ⟨cur, ty, h⟩ := plain_set P1.out b (off + j * 8 + 6) (.slice bA body.length bc); exact ⟨cur, ty, (k3.block b (lt_of_block h) ⟨nE, hbp⟩).trans h⟩)
  have f7 := plain_free P3.out (off + j * 8 + 7)
  clear CL r3 cu3 k3 sh3 a7'
  go_wp2_with fail
  go_roundw
  case rel => exact ⟨j + 1, by omega, by go_num, qh ⟨RN.out, by rw [XE.out, HQ.out, HXX.out]; exact C3.out.setNew hbp _, KN.out, SN.out _⟩⟩
  case measure => simp [intOf]; omega
theorem spec_l05Fix (l : List St) : FxC l := by
 induction hN : snodess l using Nat.strongRecOn generalizing l with
 | ind N ih =>
  refine spec_l05Fix_at l fun g hg k s t body els e => ?_
  have := snodess_le hg
  have h2 : snodes g = 1 + snodess body + snodess els := by rw [e, snodes]
  exact ⟨ih _ (by omega) body rfl, ih _ (by omega) els rfl⟩
end Go.Proofs.YtnmblfonmfjoeaaGreatDoor
