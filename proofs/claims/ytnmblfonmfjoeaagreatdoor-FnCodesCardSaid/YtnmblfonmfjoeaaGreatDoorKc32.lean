/- Lemmas for the row. -/
import Derived.Test.YtnmblfonmfjoeaaGreatDoorKc31
namespace Go.Proofs.YtnmblfonmfjoeaaGreatDoor
open Go.RowKit
set_option maxHeartbeats 3200000
set_option maxRecDepth 100000
set_option linter.unusedVariables false
def RetLG (w : World) (p : Nat) (A : Option Addr) (c : Nat) (code : List UInt8) (r : List St × Cur) (e : Ending) (w' : World) : Prop :=
 ∃ A' c', e = .returned (.slice A' r.1.length c') ∧ r.1.length ≤ c' ∧ c' ≤ maxLen ∧ GrwO w.heap.size w' (.slice A' r.1.length c') r.1 ∧ CurAt w' p A c code r.2 ∧ Keep (fun b => b ≠ p) w w'
abbrev DlG (d : Nat) : Prop := ∀ (p : Nat) (A : Option Addr) (c : Nat) (code : List UInt8) (k : Cur) (w : World), Rd w 1 A code.length (bv code) → code.length ≤ 1048576 → c ≤ maxLen → CurAt w p A c code k →
 Calls Tryz.prog 39 #[.pointer (some ⟨p, 0, none⟩), .int .i64 (d : Int)] w (RetLG w p A c code (lstS code (stS code d) k))
theorem spec_l04ListG (d : Nat) (hd : d ≤ 100) : DlG d := by
 have ih := spec_l04Stmt d hd
 intro p A c code k w rd hl hc hk
 have RD := qh rd
 have HK := qh hk
 have IH := qh ih
 have hpl := lt_of_block hk.at'
 clear rd hk ih
 go_enter Tryz.func39, Tryz.ntmps39
 go_wp2_with fail
 go_loopw [5, 6] (fun v i wr => ∃ (acc : List St) (kc : Cur), acc.length ≤ 3 ∧ i = .int .i64 (acc.length : Int) ∧ Hid (GrwO w.heap.size wr v acc ∧ CurAt wr p A c code kc ∧ Keep (fun b => b ≠ p) w wr ∧ Rd wr 1 A code.length (bv code) ∧ listS code (stS code d) (3 - acc.length) acc.length acc kc = lstS code (stS code d) k)) (fun _ i _ => 4 - (intOf i).toNat)
 case atStart => exact ⟨[], k, by simp, rfl, qh ⟨GrwO.empty (Nat.le_refl _), HK.out.keep zB, Keep.alloc (Keep.refl _ _) _, RD.out.alloc _, rfl⟩⟩
 case round =>
  obtain ⟨acc, kc, hj, rfl, HR⟩ := hrel
  obtain ⟨hgr, hcu, hkp, hrd, hls⟩ := HR.out
  obtain ⟨A', c', rfl, hc1, hc2⟩ := hgr.slice
  have GR := qh hgr
  have CU := qh hcu
  have KP := qh hkp
  have RR := qh hrd
  have hsz := hkp.size
  have hb := belowD_bd code (n := 4) (by decide) kc
  have LS := qh hls
  clear hgr hcu hkp hrd hls HR
  go_wp2_with fail
  refine (spec_l01Below 4 p A c code kc _ RR.out hl hc CU.out (by omega)).mono ?_
  rintro e w1 ⟨rfl, k1, kp1⟩
  have K1 := qh k1
  have P1 := qh (KP.out.trans kp1 (fun _ _ h => h))
  have R1 := qh (rd_apart RR.out CU.out kp1)
  have G1 := qh (GR.out.keep kp1 (fun b hb _ => by omega))
  have hs1 := kp1.size
  have SM := qh (@listS_more code (stS code d) (3 - (acc.length + 1)) acc.length acc kc)
  have SP := qh (@listS_stop code (stS code d) (3 - acc.length) acc.length acc kc)
  clear k1 kp1 GR KP RR CU
  generalize belowD code 4 kc = y at *
  obtain ⟨x, k1⟩ := y
  simp only at hb K1
  by_cases hlt : (acc.length : Int) < x
  ·have hj3 : 3 - (acc.length + 1) + 1 = 3 - acc.length := by omega
   have LM : Hid (listS code (stS code d) (3 - (acc.length + 1)) (acc.length + 1) (acc ++ [(stS code d k1).1]) (stS code d k1).2 = lstS code (stS code d) k) := qh (by
    have h1 := SM.out hlt
    rw [hj3] at h1
    rw [← LS.out]; exact h1.symm)
   clear SM SP LS hj3
   go_wp2_with fail
   refine (IH.out p A c code k1 _ R1.out hl hc K1.out).mono ?_
   rintro e w2 ⟨xx, rfl, t2, k2, kp2⟩
   have T2 := qh t2
   have K2 := qh k2
   have R2 := qh (rd_apart R1.out K1.out kp2)
   have P2 := qh (P1.out.trans kp2 (fun _ _ h => h))
   have Q2 := qh kp2
   have hs2 := kp2.size
   clear t2 k2 kp2
   obtain ⟨xs, G, hxl, ow, hG, hd, hx⟩ := G1.out
   have OW := qh (ow.keep Q2.out (fun b hb => by have := (ow.lt b hb).1; omega)).own
   have OX := qh ow
   have HX := qh (And.intro hxl (And.intro hG (And.intro hd hx)))
   clear ow hxl hG hd hx
   go_wp2_with (at_builtin; refine wpList_appG_new w2.heap.size rfl rfl _ _ _ rfl sgT OW.out _ 1 rfl rfl rfl (by simp [Value.oneCell']) (by simp only [maxLen]; omega) (by omega) ?_; intro v3 w3 own3 gr3)
   have GN : Hid (GrwO w.heap.size w3 v3 (acc ++ [(stS code d k1).1])) := qh (grw_app (S := fun b => b ≠ p) HX.out.1 OX.out HX.out.2.1 HX.out.2.2.1 HX.out.2.2.2 Q2.out (fun b hb _ => by omega) T2.out own3 gr3)
   have OKB : Hid (∀ b, b < w.heap.size → (.slice A' acc.length c' : Value).ownBlock ≠ some b) := qh fun b hb e => by have := OX.out.lt b e; omega
   have BG : Hid (Keep (fun b => b < w.heap.size) w2 w3) := qh (gr3.keep.mono fun b _ hb => OKB.out b hb)
   have K3 : Hid (CurAt w3 p A c code (stS code d k1).2) := qh ⟨(BG.out.block p (lt_of_block K2.out.at') hpl).trans K2.out.at', K2.out.le⟩
   have P3 : Hid (Keep (fun b => b ≠ p) w w3) := qh (P2.out.trans BG.out (fun b hb _ => hb))
   clear own3 gr3
   go_wp2_with fail
   go_roundw
   case rel => exact ⟨acc ++ [(stS code d k1).1], (stS code d k1).2, by simp; omega, by simp, qh ⟨GN.out, K3.out, P3.out, rd_apart RD.out HK.out P3.out, by rw [List.length_append]; exact LM.out⟩⟩
   case measure => simp [intOf]; omega
  ·have LE : Hid ((acc, k1) = lstS code (stS code d) k) := qh (by rw [← LS.out]; exact (SP.out hlt).symm)
   clear SM SP LS
   go_wp2_with fail
   go_ret
   rw [← LE.out]
   exact ⟨A', c', rfl, hc1, hc2, G1.out, K1.out, P1.out⟩
theorem v8_one (xs : List V8) : ∀ u ∈ xs.flatMap V8.cells, u.oneCell' = true := by
 intro u hu
 obtain ⟨x, _, hx⟩ := List.mem_flatMap.1 hu
 simp only [V8.cells, List.mem_cons, List.not_mem_nil, or_false] at hx
 rcases hx with rfl | rfl | rfl | rfl | rfl | rfl | rfl | rfl <;> rfl
theorem OwnX.mono {base base' : Nat} {w : World} {e : TypeId} {sz n : Nat} {v : Value} {xs : List Value} (h : OwnX base' w e sz v n xs) (hb : base ≤ base') : OwnX base w e sz v n xs := by
 refine ⟨⟨h.1.1, ?_⟩, Nat.le_trans hb h.2⟩
 rcases h.1.2 with h' | ⟨g, cap, cur, e, hg, r⟩
 ·exact .inl h'
 ·exact .inr ⟨g, cap, cur, e, Nat.le_trans hb hg, r⟩
theorem GrwO.mono {base base' : Nat} {w : World} {v : Value} {l : List St} (h : GrwO base' w v l) (hb : base ≤ base') : GrwO base w v l := by
 obtain ⟨xs, G, hl, ow, hG, hd, hx⟩ := h
 exact ⟨xs, G, hl, ow.mono hb, fun i b hi hg => ⟨Nat.le_trans hb (hG i b hi hg).1, (hG i b hi hg).2⟩, hd, hx⟩
def CapO (w : World) (F : Nat → Prop) (A : Option Addr) (n c : Nat) : Prop :=
 (A = none ∧ c = 0 ∧ n = 0) ∨ ∃ (g : Nat) (cur : Array Value), A = some ⟨g, 0, none⟩ ∧ F g ∧ w.heap[g]? = some (.cells cur 71 (0, 0)) ∧ n ≤ c ∧ c ≤ maxLen ∧ cur.size = c * 8
theorem CapO.keep {w w' : World} {F : Nat → Prop} {A : Option Addr} {n c : Nat} (h : CapO w F A n c) (hk : ∀ b, F b → w'.heap[b]? = w.heap[b]?) : CapO w' F A n c := by
 rcases h with h | ⟨g, cur, e, hF, hg, r⟩
 ·exact .inl h
 ·exact .inr ⟨g, cur, e, hF, (hk g hF).trans hg, r⟩
theorem CapO.shp {w w' : World} {F : Nat → Prop} {A : Option Addr} {n c : Nat} (h : CapO w F A n c) (hs : Shp w w') : CapO w' F A n c := by
 rcases h with h | ⟨g, cur, e, hF, hg, h1, h2, h3⟩
 ·exact .inl h
 ·obtain ⟨cur', e1, e2⟩ := hs g cur _ _ hg
  exact .inr ⟨g, cur', e, hF, e1, h1, h2, by rw [e2]; exact h3⟩
theorem CapO.sub {w : World} {F F' : Nat → Prop} {A : Option Addr} {n c : Nat} (h : CapO w F A n c) (hF : ∀ b, F b → F' b) : CapO w F' A n c := by
 rcases h with h | ⟨g, cur, e, h1, r⟩
 ·exact .inl h
 ·exact .inr ⟨g, cur, e, hF g h1, r⟩
theorem GrwO.cap {base : Nat} {w : World} {A : Option Addr} {c : Nat} {l : List St} (h : GrwO base w (.slice A l.length c) l) : CapO w (fun b => base ≤ b ∧ b < w.heap.size) A l.length c := by
 obtain ⟨xs, G, hl, ow, hG, hd, hx⟩ := h
 rcases ow.1.2 with ⟨h1, h2⟩ | ⟨g, cap, cur, h1, hb, hg, h3, h4, h5, _⟩
 ·injection h1 with e1 e2 e3; exact .inl ⟨e1, e3, h2⟩
 ·injection h1 with e1 e2 e3; subst e3; exact .inr ⟨g, cur, e1, ⟨hb, lt_of_block hg⟩, hg, h3, h4, h5⟩
theorem GrwO.rowB {base : Nat} {w : World} {A : Option Addr} {c : Nat} {l : List St} (h : GrwO base w (.slice A l.length c) l) : StRowO w (fun b => base ≤ b ∧ b < w.heap.size) A l := by
 obtain ⟨xs, G, hl, ow, hG, hd, hx⟩ := h
 refine stRowO_of (xs := xs) (G := G) hl ⟨ow.own.rd, fun hn => ?_, fun i b hi hb => ⟨(hG i b hi hb).1, (hG i b hi hb).2.1⟩, hd⟩ hx
 rcases ow.1.2 with ⟨h, _⟩ | ⟨g, cap, cur, h, hb, hg, _⟩
 ·injection h with _ h2; omega
 ·injection h with h1 h2
  subst h1
  exact ⟨g, 0, cur, _, rfl, ⟨hb, lt_of_block hg⟩, hg, fun i hi hb => (hG i g hi hb).2.2 rfl⟩
theorem grwO_lit (x : V8) (g : St) (w : World) (h : ∀ w', StO w' (fun _ => False) x g) : GrwO w.heap.size (w.alloc (.cells x.cells.toArray 71)) (.slice (some ⟨w.heap.size, 0, none⟩) 1 1) [g] := by
 refine ⟨[x], fun _ _ => False, rfl, ⟨?_, by simp⟩, fun i b hi hb => hb.elim, fun i j b hi hj hne h1 h2 => h1, fun i hi hi' => ?_⟩
 ·have := World.ownsRow_lit (base := w.heap.size) (e := 71) (size := 8) w x.cells.toArray 1 (Nat.le_refl _) (by simp [maxLen]) rfl
  simpa using this
 ·have h0 : i = 0 := by simp at hi; omega
  subst h0
  exact h _
theorem flatO (k : Int) (s : ByteArray) (hk : i64in k) (hs : s.size ≤ maxLen) (w : World) : StO w (fun _ => False) ⟨k, s, 0, 0, ⟨#[]⟩, none, 0, 0, none, 0, 0, none, 0, 0⟩ (.mk k s zeroTm [] []) := stO_flat hk hs zeroOD (fun _ h => h)
theorem grw_cat {base b1 : Nat} {w0 w1 w2 : World} {v v' : Value} {l l2 : List St} {xs ys : List V8} {G GY : Nat → Nat → Prop} {A2 : Option Addr} {F : Nat → Prop} {S : Nat → Prop}
  (hl : xs.length = l.length) (ow : OwnX b1 w0 71 8 v l.length (xs.flatMap V8.cells)) (hG : ∀ i b, i < l.length → G i b → b1 ≤ b ∧ b < w0.heap.size ∧ v.ownBlock ≠ some b) (hd : ∀ i j b, i < l.length → j < l.length → i ≠ j → G i b → G j b → False) (hx : ∀ i (h : i < l.length) (h' : i < xs.length), StO w0 (G i) xs[i] l[i])
  (hbb : base ≤ b1) (hk : Keep S w0 w1) (hS : ∀ b, b1 ≤ b → b < w0.heap.size → S b)
  (hyl : ys.length = l2.length) (ry : RowO w1 F 8 A2 l2.length (ys.flatMap V8.cells) GY) (hy : ∀ i (h : i < l2.length) (h' : i < ys.length), StO w1 (GY i) ys[i] l2[i])
  (hF : ∀ b, F b → base ≤ b ∧ b < w1.heap.size ∧ ¬ (b1 ≤ b ∧ b < w0.heap.size))
  (own3 : Own (cutX b1 w1) w2 71 8 v' (l.length + l2.length) (xs.flatMap V8.cells ++ ys.flatMap V8.cells)) (gr : Grew v v' w1 w2) : GrwO base w2 v' (l ++ l2) := by
 have h01 := hk.size
 have h12 := gr.keep.size
 have hb0 := ow.2
 have hlt := ow.lt
 have key : ∀ b, b < w1.heap.size → v.ownBlock ≠ some b → v'.ownBlock ≠ some b := by
  intro b hb hv e
  rcases gr.lies with h1 | ⟨q, h1, h2⟩
  ·exact hv (h1 ▸ e)
  ·rw [h1] at e; injection e with e; omega
 have hFn : ∀ b, F b → v.ownBlock ≠ some b := fun b hb e => (hF b hb).2.2 (hlt b e)
 have hGF := ry.2.2.1
 refine ⟨xs ++ ys, fun i b => if i < l.length then G i b else GY (i - l.length) b, by simp [hl, hyl], ?_, fun i b hi hb => ?_, fun i j b hi hj hne h1 h2 => ?_, fun i hi hi' => ?_⟩
 ·rw [List.length_append, List.flatMap_append]
  exact (OwnX.of (by omega) own3).mono hbb
 ·rw [List.length_append] at hi
  by_cases e : i < l.length
  ·simp only [e, if_true] at hb
   have := hG i b e hb
   exact ⟨by omega, by omega, key b (by omega) this.2.2⟩
  ·simp only [e, if_false] at hb
   have hf := hGF _ b (by omega) hb
   have := hF b hf
   exact ⟨this.1, by omega, key b this.2.1 (hFn b hf)⟩
 ·rw [List.length_append] at hi hj
  by_cases e : i < l.length
  ·by_cases e' : j < l.length
   ·simp only [e, e', if_true] at h1 h2; exact hd i j b e e' hne h1 h2
   ·simp only [e, e', if_true, if_false] at h1 h2
    have := hG i b e h1
    exact (hF b (hGF _ b (by omega) h2)).2.2 ⟨this.1, this.2.1⟩
  ·by_cases e' : j < l.length
   ·simp only [e, e', if_true, if_false] at h1 h2
    have := hG j b e' h2
    exact (hF b (hGF _ b (by omega) h1)).2.2 ⟨this.1, this.2.1⟩
   ·simp only [e, e', if_false] at h1 h2
    exact ry.2.2.2 _ _ b (by omega) (by omega) (by omega) h1 h2
 ·rw [List.length_append] at hi
  by_cases e : i < l.length
  ·have e2 : i < xs.length := by omega
   simp only [e, if_true]
   rw [List.getElem_append_left e2, List.getElem_append_left e]
   have hb := fun b hb => hG i b e hb
   exact ((hx i e e2).keep fun b q => hk.block b (hb b q).2.1 (hS b (hb b q).1 (hb b q).2.1)).keep fun b q => gr.keep.block b (by have := (hb b q).2.1; omega) (hb b q).2.2
  ·simp only [e, if_false]
   rw [List.getElem_append_right (by omega), List.getElem_append_right (by omega)]
   have hh : ∀ m (hm : m < ys.length) (hm' : m < l2.length), m = i - l.length → StO w2 (GY (i - l.length)) ys[m] l2[m] := by
    intro m hm hm' em
    subst em
    exact (hy _ hm' hm).keep fun b q => gr.keep.block b (hF b (hGF _ b hm' q)).2.1 (hFn b (hGF _ b hm' q))
   have e3 : xs.length = l.length := hl
   simp only [e3]
   exact hh (i - l.length) (by omega) (by omega) rfl
def RetGB (base : Nat) (w : World) (p : Nat) (A : Option Addr) (c : Nat) (code : List UInt8) (r : List St × Cur) (e : Ending) (w' : World) : Prop :=
 ∃ A' c', e = .returned (.slice A' r.1.length c') ∧ r.1.length ≤ c' ∧ c' ≤ maxLen ∧ GrwO base w' (.slice A' r.1.length c') r.1 ∧ CurAt w' p A c code r.2 ∧ Keep (fun b => b < base ∧ b ≠ p) w w'
theorem guardS_same {code : List UInt8} {l : List St} {k : Cur} (k1 k2 : Cur) (x y : Int) (h1 : belowD code 3 k = (x, k1)) (h2 : belowD code 3 k1 = (y, k2)) (h : pickS loN x = pickS loN y) : guardS code l k = ([lockS (pickS loN x)] ++ l ++ [unlockS (pickS loN x)], k2) := by
 unfold guardS; simp only [h1, h2]; rw [if_pos h]
theorem guardS_two {code : List UInt8} {l : List St} {k : Cur} (k1 k2 k3 : Cur) (x y z : Int) (h1 : belowD code 3 k = (x, k1)) (h2 : belowD code 3 k1 = (y, k2)) (h : pickS loN x ≠ pickS loN y) (h3 : belowD code 2 k2 = (z, k3)) (hz : z = 0) : guardS code l k = ([lockS (pickS loN x)] ++ [lockS (pickS loN y)] ++ l ++ [unlockS (pickS loN x)], k3) := by
 unfold guardS; simp only [h1, h2, h3]; rw [if_neg h, if_pos hz]
theorem guardS_one {code : List UInt8} {l : List St} {k : Cur} (k1 k2 k3 : Cur) (x y z : Int) (h1 : belowD code 3 k = (x, k1)) (h2 : belowD code 3 k1 = (y, k2)) (h : pickS loN x ≠ pickS loN y) (h3 : belowD code 2 k2 = (z, k3)) (hz : z ≠ 0) : guardS code l k = ([lockS (pickS loN x)] ++ l ++ [unlockS (pickS loN x)], k3) := by
 unfold guardS; simp only [h1, h2, h3]; rw [if_neg h, if_neg hz]
theorem spec_l05Guarded (base p : Nat) (A : Option Addr) (c : Nat) (code : List UInt8) (k : Cur) (Al : Option Addr) (cl : Nat) (l : List St) (w : World) (rd : Rd w 1 A code.length (bv code)) (hl : code.length ≤ 1048576) (hc : c ≤ maxLen) (hk : CurAt w p A c code k) (hpb : p < base) (h : GrwO base w (.slice Al l.length cl) l) (hll : l.length ≤ 100) :
  Calls Tryz.prog 42 #[.pointer (some ⟨p, 0, none⟩), .slice Al l.length cl] w (RetGB base w p A c code (guardS code l k)) := by
 have RD := qh rd
 have HK := qh hk
 have GB := qh h
 have hbw : base ≤ w.heap.size := by obtain ⟨_, _, _, ow, _⟩ := h; exact ow.2
 have hpl := lt_of_block hk.at'
 have HRet : Hid (∀ L kc A' c' w', guardS code l k = (L, kc) → L.length ≤ c' → c' ≤ maxLen → GrwO base w' (.slice A' L.length c') L → CurAt w' p A c code kc → Keep (fun b => b < base ∧ b ≠ p) w w' → RetGB base w p A c code (guardS code l k) (.returned (.slice A' L.length c')) w') := qh fun L kc A' c' w' e h1 h2 h3 h4 h5 => by rw [e]; exact ⟨A', c', rfl, h1, h2, h3, h4, h5⟩
 have ES := qh (@guardS_same code l k)
 have ET := qh (@guardS_two code l k)
 have EO := qh (@guardS_one code l k)
 generalize hRR : RetGB base w p A c code (guardS code l k) = RR at *
 generalize hGS : guardS code l k = GS at *
 clear hRR hGS rd hk h
 go_enter Tryz.func42, Tryz.ntmps42
 go_wp2_with fail
 refine (pick_lo _ p (by omega) A c code k _ (Rd.new _ 1 3 _ _ rfl) (RD.out.alloc _) hl hc (HK.out.keep zB)).mono ?_
 rintro e w1 ⟨rfl, k1, kp1⟩
 have K1 := qh k1
 have P1 : Hid (Keep (fun b => b ≠ p) w w1) := qh (((Keep.refl (fun b => b ≠ p) w).alloc _).trans kp1 (fun _ _ h => h))
 have R1 := qh (rd_apart RD.out HK.out P1.out)
 have asz0 := pick_sz loN_sz rfl code k
 have hs1 : w.heap.size ≤ w1.heap.size := P1.out.size
 generalize hx : belowD code 3 k = xk at *
 obtain ⟨x, kx⟩ := xk
 have HX := qh hx
 clear k1 kp1 hx
 simp only at K1 asz0
 have ASZ := qh asz0
 clear asz0
 have HA := qh (rfl : pickS loN x = pickS loN x)
 generalize ha : pickS loN x = a at *
 have HAE := qh ha
 have asz : Hid (a.size ≤ maxLen) := qh (by first | exact ASZ.out | (rw [← ha]; exact ASZ.out))
 clear ha ASZ HA
 go_wp2_with fail
 refine (pick_lo _ p (by omega) A c code kx _ (Rd.new _ 1 3 _ _ rfl) (R1.out.alloc _) hl hc (K1.out.keep zB)).mono ?_
 rintro e w2 ⟨rfl, k2, kp2⟩
 have K2 := qh k2
 have P2 : Hid (Keep (fun b => b ≠ p) w w2) := qh ((P1.out.alloc _).trans kp2 (fun _ _ h => h))
 have R2 := qh (rd_apart RD.out HK.out P2.out)
 have bsz0 := pick_sz loN_sz rfl code kx
 have hs2 : w.heap.size ≤ w2.heap.size := P2.out.size
 generalize hy : belowD code 3 kx = yk at *
 obtain ⟨y, ky⟩ := yk
 have HYE := qh hy
 clear k2 kp2 hy
 simp only at K2 bsz0
 generalize hb : pickS loN y = b at *
 have HBE := qh hb
 have bsz : Hid (b.size ≤ maxLen) := qh bsz0
 clear hb bsz0 P1 R1 K1 hs1
 have G3 : Hid (GrwO w.heap.size (w2.alloc (.cells #[.int .i64 6, .string a, .int .i64 0, .int .i64 0, .string ⟨#[]⟩, .slice none 0 0, .slice none 0 0, .slice none 0 0] 71)) (.slice (some ⟨w2.heap.size, 0, none⟩) [lockS a].length 1) [lockS a]) := qh ((grwO_lit ⟨6, a, 0, 0, ⟨#[]⟩, none, 0, 0, none, 0, 0, none, 0, 0⟩ (lockS a) w2 (fun w' => flatO 6 a (by unfold i64in; omega) asz.out w')).mono hs2)
 obtain ⟨L1, hL1⟩ : ∃ L', L' = [lockS a] := ⟨_, rfl⟩
 have hlq : L1.length = 1 := by rw [hL1]; rfl
 have hlL1 : L1.length ≤ 1 := by omega
 have HL1 := qh hL1
 rw [← hL1, hlq] at G3
 clear hlq
 have P3 : Hid (Keep (fun b => b ≠ p) w (w2.alloc (.cells #[.int .i64 6, .string a, .int .i64 0, .int .i64 0, .string ⟨#[]⟩, .slice none 0 0, .slice none 0 0, .slice none 0 0] 71))) := qh (P2.out.alloc _)
 have K3 : Hid (CurAt (w2.alloc (.cells #[.int .i64 6, .string a, .int .i64 0, .int .i64 0, .string ⟨#[]⟩, .slice none 0 0, .slice none 0 0, .slice none 0 0] 71)) p A c code ky) := qh (K2.out.keep zB)
 have R3 := qh (rd_apart RD.out HK.out P3.out)
 have HZ : Hid (w.heap.size ≤ (w2.alloc (.cells #[.int .i64 6, .string a, .int .i64 0, .int .i64 0, .string ⟨#[]⟩, .slice none 0 0, .slice none 0 0, .slice none 0 0] 71)).heap.size) := qh P3.out.size
 have KBW : Hid (∀ i, base ≤ i ∧ i < w.heap.size → (w2.alloc (.cells #[.int .i64 6, .string a, .int .i64 0, .int .i64 0, .string ⟨#[]⟩, .slice none 0 0, .slice none 0 0, .slice none 0 0] 71)).heap[i]? = w.heap[i]?) := qh fun i hi => P3.out.block i hi.2 (by omega)
 clear hL1 R2
 by_cases hab : a = b
 ·have hne := str_eq a b
  rw [decide_eq_true hab] at hne
  have HAB := qh hab
  clear hab
  obtain ⟨ys, GY, hyl, ry, hy⟩ := stRowO_to GB.out.rowB
  have RY := qh (ry.keep (w' := (w2.alloc (.cells #[.int .i64 6, .string a, .int .i64 0, .int .i64 0, .string ⟨#[]⟩, .slice none 0 0, .slice none 0 0, .slice none 0 0] 71))) (fun b hb => KBW.out b hb))
  have HY : Hid (∀ i (h : i < l.length) (h' : i < ys.length), StO (w2.alloc (.cells #[.int .i64 6, .string a, .int .i64 0, .int .i64 0, .string ⟨#[]⟩, .slice none 0 0, .slice none 0 0, .slice none 0 0] 71)) (GY i) ys[i] l[i]) := qh (fun i hi hi' => (hy i hi hi').keep fun b hb => KBW.out b (ry.2.2.1 i b hi hb))
  have HYL := qh hyl
  have YRD := qh RY.out.1
  clear ry hy hyl
  obtain ⟨xs7, G7, hxl7, ow7, hG7, hd7, hx7⟩ := G3.out
  have OW7 := qh ow7.own
  have OX7 := qh ow7
  have HX7 := qh (And.intro hxl7 (And.intro hG7 (And.intro hd7 hx7)))
  clear ow7 hxl7 hG7 hd7 hx7
  go_wp2_with (at_builtin; first | (refine wpList_appG rfl _ _ _ rfl sgT rfl OW7.out Al l.length cl (ys.flatMap V8.cells) rfl YRD.out (v8_one ys) (by simp only [maxLen]; omega) (by omega) ?_; intro v3 w3 own3 gr3; have GN3 : Hid (GrwO base w3 v3 (L1 ++ l)) := qh (grw_cat (S := fun _ => True) HX7.out.1 OX7.out HX7.out.2.1 HX7.out.2.2.1 HX7.out.2.2.2 hbw (Keep.refl _ _) (fun _ _ _ => trivial) HYL.out RY.out HY.out (fun b hb => ⟨hb.1, by have := hb.2; have := HZ.out; omega, fun h => by have := hb.2; have := h.1; omega⟩) own3 gr3); have BG3 : Hid (Keep (fun b => b < w.heap.size) (w2.alloc (.cells #[.int .i64 6, .string a, .int .i64 0, .int .i64 0, .string ⟨#[]⟩, .slice none 0 0, .slice none 0 0, .slice none 0 0] 71)) w3) := qh (gr3.keep.mono fun b _ hb e => by have := OX7.out.lt b e; omega); have LA3 : v3 = v3 ∧ ∃ A c, v3 = .slice A (L1 ++ l).length c ∧ (L1 ++ l).length ≤ c ∧ c ≤ maxLen := ⟨rfl, GN3.out.slice⟩; obtain ⟨-, A3, c3, rfl, hA3, hc3⟩ := LA3; obtain ⟨L3, hL3⟩ : ∃ L', L' = L1 ++ l := ⟨_, rfl⟩; have hlL3 : L3.length ≤ L1.length + l.length := (by rw [hL3, List.length_append]; omega); have HL3 := qh hL3; rw [← hL3] at GN3 hA3 ⊢; clear hL3 own3 gr3; obtain ⟨xs9, G9, hxl9, ow9, hG9, hd9, hx9⟩ := GN3.out; have OW9 := qh ow9.own; have OX9 := qh ow9; have HX9 := qh (And.intro hxl9 (And.intro hG9 (And.intro hd9 hx9))); clear ow9 hxl9 hG9 hd9 hx9) | (refine wpList_appG_new w3.heap.size rfl rfl _ _ _ rfl sgT OW9.out _ 1 rfl rfl rfl (by simp [Value.oneCell']) (by simp only [maxLen]; omega) (by omega) ?_; intro v9 w9 own9 gr9; have GN9 : Hid (GrwO base w9 v9 (L3 ++ [St.mk 7 a zeroTm [] []])) := qh (grw_app (S := fun _ => True) (x := ⟨7, a, 0, 0, ⟨#[]⟩, none, 0, 0, none, 0, 0, none, 0, 0⟩) HX9.out.1 OX9.out HX9.out.2.1 HX9.out.2.2.1 HX9.out.2.2.2 (Keep.refl _ _) (fun _ _ _ => trivial) ((flatO 7 a (by unfold i64in; omega) asz.out _).sub (fun _ h => h.elim)) own9 gr9); have BG9 : Hid (Keep (fun b => b < base) w3 w9) := qh (gr9.keep.mono fun b _ hb e => by have := OX9.out.lt b e; omega); have LA9 : v9 = v9 ∧ ∃ A c, v9 = .slice A (L3 ++ [St.mk 7 a zeroTm [] []]).length c ∧ (L3 ++ [St.mk 7 a zeroTm [] []]).length ≤ c ∧ c ≤ maxLen := ⟨rfl, GN9.out.slice⟩; obtain ⟨-, A9, c9, rfl, hA9, hc9⟩ := LA9; obtain ⟨L9, hL9⟩ : ∃ L', L' = L3 ++ [St.mk 7 a zeroTm [] []] := ⟨_, rfl⟩; have hlL9 : L9.length ≤ L3.length + 1 := (by rw [hL9]; simp); have HL9 := qh hL9; rw [← hL9] at GN9 hA9 ⊢; clear hL9 own9 gr9))
  have P9 : Hid (Keep (fun b => b < base ∧ b ≠ p) w w9) := qh (((P3.out.trans BG3.out (fun b hb _ => hb)).mono (fun b _ (h : b < base ∧ b ≠ p) => h.2)).trans BG9.out (fun b _ h => h.1))
  have C9 : Hid (CurAt w9 p A c code ky) := qh ⟨by rw [BG9.out.block p (by have := BG3.out.size; have := lt_of_block K3.out.at'; omega) hpb, BG3.out.block p (lt_of_block K3.out.at') hpl]; exact K3.out.at', K3.out.le⟩
  exact HRet.out L9 ky A9 c9 w9 (by rw [HL9.out, HL3.out, HL1.out, ← HAE.out]; exact ES.out _ _ _ _ (by first | exact rfl | exact HX.out) HYE.out (by rw [HAE.out, HBE.out]; exact HAB.out)) hA9 hc9 GN9.out C9.out P9.out
 have hne := str_eq a b
 rw [decide_no hab] at hne
 clear HZ KBW
 go_wp2_with fail
 refine (spec_l01Once 2 p A c code ky _ R3.out hl hc K3.out (by omega)).mono ?_
 rintro e w4 ⟨rfl, k4, kp4⟩
 have K4 := qh k4
 have P4 : Hid (Keep (fun b => b ≠ p) w w4) := qh (P3.out.trans kp4 (fun _ _ h => h))
 have G4 := qh (G3.out.keep kp4 (fun b hb _ => by omega))
 have hs4 : w.heap.size ≤ w4.heap.size := P4.out.size
 generalize hz : belowD code 2 ky = zk at *
 obtain ⟨z, kz⟩ := zk
 have HZE := qh hz
 clear k4 kp4 hz P3 K3 R3 G3
 simp only at K4
 by_cases hz : z = 0
 ·have hzb : (z == 0) = true := by simp [hz]
  obtain ⟨xs5, G5, hxl5, ow5, hG5, hd5, hx5⟩ := G4.out
  have OW5 := qh ow5.own
  have OX5 := qh ow5
  have HX5 := qh (And.intro hxl5 (And.intro hG5 (And.intro hd5 hx5)))
  clear ow5 hxl5 hG5 hd5 hx5
  go_wp2_with (at_builtin; first | (refine wpList_appG_new w4.heap.size rfl rfl _ _ _ rfl sgT OW5.out _ 1 rfl rfl rfl (by simp [Value.oneCell']) (by simp only [maxLen]; omega) (by omega) ?_; intro v5 w5 own5 gr5; have GN5 : Hid (GrwO w.heap.size w5 v5 (L1 ++ [St.mk 6 b zeroTm [] []])) := qh (grw_app (S := fun _ => True) (x := ⟨6, b, 0, 0, ⟨#[]⟩, none, 0, 0, none, 0, 0, none, 0, 0⟩) HX5.out.1 OX5.out HX5.out.2.1 HX5.out.2.2.1 HX5.out.2.2.2 (Keep.refl _ _) (fun _ _ _ => trivial) ((flatO 6 b (by unfold i64in; omega) bsz.out _).sub (fun _ h => h.elim)) own5 gr5); have BG5 : Hid (Keep (fun b => b < w.heap.size) w4 w5) := qh (gr5.keep.mono fun b _ hb e => by have := OX5.out.lt b e; omega); have LA5 : v5 = v5 ∧ ∃ A c, v5 = .slice A (L1 ++ [St.mk 6 b zeroTm [] []]).length c ∧ (L1 ++ [St.mk 6 b zeroTm [] []]).length ≤ c ∧ c ≤ maxLen := ⟨rfl, GN5.out.slice⟩; obtain ⟨-, A5, c5, rfl, hA5, hc5⟩ := LA5; obtain ⟨L2, hL2⟩ : ∃ L', L' = L1 ++ [St.mk 6 b zeroTm [] []] := ⟨_, rfl⟩; have hlL2 : L2.length ≤ L1.length + 1 := (by rw [hL2]; simp); have HL2 := qh hL2; rw [← hL2] at GN5 hA5 ⊢; clear hL2 own5 gr5; have P5 : Hid (Keep (fun b => b ≠ p) w w5) := qh (P4.out.trans BG5.out (fun b hb _ => hb)); have K5 : Hid (CurAt w5 p A c code kz) := qh ⟨by rw [BG5.out.block p (lt_of_block K4.out.at') hpl]; exact K4.out.at', K4.out.le⟩; have HZ : Hid (w.heap.size ≤ w5.heap.size) := qh P5.out.size; have KBW : Hid (∀ i, base ≤ i ∧ i < w.heap.size → w5.heap[i]? = w.heap[i]?) := qh (fun i hi => P5.out.block i hi.2 (by omega)); obtain ⟨ys, GY, hyl, ry, hy⟩ := stRowO_to GB.out.rowB; have RY := qh (ry.keep (w' := w5) (fun b hb => KBW.out b hb)); have HY : Hid (∀ i (h : i < l.length) (h' : i < ys.length), StO w5 (GY i) ys[i] l[i]) := qh (fun i hi hi' => (hy i hi hi').keep fun b hb => KBW.out b (ry.2.2.1 i b hi hb)); have HYL := qh hyl; have YRD := qh RY.out.1; clear ry hy hyl; obtain ⟨xs7, G7, hxl7, ow7, hG7, hd7, hx7⟩ := GN5.out; have OW7 := qh ow7.own; have OX7 := qh ow7; have HX7 := qh (And.intro hxl7 (And.intro hG7 (And.intro hd7 hx7))); clear ow7 hxl7 hG7 hd7 hx7) | (refine wpList_appG rfl _ _ _ rfl sgT rfl OW7.out Al l.length cl (ys.flatMap V8.cells) rfl YRD.out (v8_one ys) (by simp only [maxLen]; omega) (by omega) ?_; intro v3 w3 own3 gr3; have GN3 : Hid (GrwO base w3 v3 (L2 ++ l)) := qh (grw_cat (S := fun _ => True) HX7.out.1 OX7.out HX7.out.2.1 HX7.out.2.2.1 HX7.out.2.2.2 hbw (Keep.refl _ _) (fun _ _ _ => trivial) HYL.out RY.out HY.out (fun b hb => ⟨hb.1, by have := hb.2; have := HZ.out; omega, fun h => by have := hb.2; have := h.1; omega⟩) own3 gr3); have BG3 : Hid (Keep (fun b => b < w.heap.size) w5 w3) := qh (gr3.keep.mono fun b _ hb e => by have := OX7.out.lt b e; omega); have LA3 : v3 = v3 ∧ ∃ A c, v3 = .slice A (L2 ++ l).length c ∧ (L2 ++ l).length ≤ c ∧ c ≤ maxLen := ⟨rfl, GN3.out.slice⟩; obtain ⟨-, A3, c3, rfl, hA3, hc3⟩ := LA3; obtain ⟨L3, hL3⟩ : ∃ L', L' = L2 ++ l := ⟨_, rfl⟩; have hlL3 : L3.length ≤ L2.length + l.length := (by rw [hL3, List.length_append]; omega); have HL3 := qh hL3; rw [← hL3] at GN3 hA3 ⊢; clear hL3 own3 gr3; obtain ⟨xs9, G9, hxl9, ow9, hG9, hd9, hx9⟩ := GN3.out; have OW9 := qh ow9.own; have OX9 := qh ow9; have HX9 := qh (And.intro hxl9 (And.intro hG9 (And.intro hd9 hx9))); clear ow9 hxl9 hG9 hd9 hx9) | (refine wpList_appG_new w3.heap.size rfl rfl _ _ _ rfl sgT OW9.out _ 1 rfl rfl rfl (by simp [Value.oneCell']) (by simp only [maxLen]; omega) (by omega) ?_; intro v9 w9 own9 gr9; have GN9 : Hid (GrwO base w9 v9 (L3 ++ [St.mk 7 a zeroTm [] []])) := qh (grw_app (S := fun _ => True) (x := ⟨7, a, 0, 0, ⟨#[]⟩, none, 0, 0, none, 0, 0, none, 0, 0⟩) HX9.out.1 OX9.out HX9.out.2.1 HX9.out.2.2.1 HX9.out.2.2.2 (Keep.refl _ _) (fun _ _ _ => trivial) ((flatO 7 a (by unfold i64in; omega) asz.out _).sub (fun _ h => h.elim)) own9 gr9); have BG9 : Hid (Keep (fun b => b < base) w3 w9) := qh (gr9.keep.mono fun b _ hb e => by have := OX9.out.lt b e; omega); have LA9 : v9 = v9 ∧ ∃ A c, v9 = .slice A (L3 ++ [St.mk 7 a zeroTm [] []]).length c ∧ (L3 ++ [St.mk 7 a zeroTm [] []]).length ≤ c ∧ c ≤ maxLen := ⟨rfl, GN9.out.slice⟩; obtain ⟨-, A9, c9, rfl, hA9, hc9⟩ := LA9; obtain ⟨L9, hL9⟩ : ∃ L', L' = L3 ++ [St.mk 7 a zeroTm [] []] := ⟨_, rfl⟩; have hlL9 : L9.length ≤ L3.length + 1 := (by rw [hL9]; simp); have HL9 := qh hL9; rw [← hL9] at GN9 hA9 ⊢; clear hL9 own9 gr9))
  have P9 : Hid (Keep (fun b => b < base ∧ b ≠ p) w w9) := qh (((P5.out.trans BG3.out (fun b hb _ => hb)).mono (fun b _ (h : b < base ∧ b ≠ p) => h.2)).trans BG9.out (fun b _ h => h.1))
  have C9 : Hid (CurAt w9 p A c code kz) := qh ⟨by rw [BG9.out.block p (by have := BG3.out.size; have := lt_of_block K5.out.at'; omega) hpb, BG3.out.block p (lt_of_block K5.out.at') hpl]; exact K5.out.at', K5.out.le⟩
  exact HRet.out L9 kz A9 c9 w9 (by rw [HL9.out, HL3.out, HL2.out, HL1.out, ← HAE.out, ← HBE.out]; exact ET.out _ _ _ _ _ _ (by first | exact rfl | exact HX.out) HYE.out (by rw [HAE.out, HBE.out]; exact hab) (by first | exact rfl | exact HZE.out) hz) hA9 hc9 GN9.out C9.out P9.out
 ·have hzb : (z == 0) = false := by simp [hz]
  have HZ : Hid (w.heap.size ≤ w4.heap.size) := qh hs4
  have KBW : Hid (∀ i, base ≤ i ∧ i < w.heap.size → w4.heap[i]? = w.heap[i]?) := qh fun i hi => P4.out.block i hi.2 (by omega)
  obtain ⟨ys, GY, hyl, ry, hy⟩ := stRowO_to GB.out.rowB
  have RY := qh (ry.keep (w' := w4) (fun b hb => KBW.out b hb))
  have HY : Hid (∀ i (h : i < l.length) (h' : i < ys.length), StO w4 (GY i) ys[i] l[i]) := qh (fun i hi hi' => (hy i hi hi').keep fun b hb => KBW.out b (ry.2.2.1 i b hi hb))
  have HYL := qh hyl
  have YRD := qh RY.out.1
  clear ry hy hyl
  obtain ⟨xs7, G7, hxl7, ow7, hG7, hd7, hx7⟩ := G4.out
  have OW7 := qh ow7.own
  have OX7 := qh ow7
  have HX7 := qh (And.intro hxl7 (And.intro hG7 (And.intro hd7 hx7)))
  clear ow7 hxl7 hG7 hd7 hx7
  go_wp2_with (at_builtin; first | (refine wpList_appG rfl _ _ _ rfl sgT rfl OW7.out Al l.length cl (ys.flatMap V8.cells) rfl YRD.out (v8_one ys) (by simp only [maxLen]; omega) (by omega) ?_; intro v3 w3 own3 gr3; have GN3 : Hid (GrwO base w3 v3 (L1 ++ l)) := qh (grw_cat (S := fun _ => True) HX7.out.1 OX7.out HX7.out.2.1 HX7.out.2.2.1 HX7.out.2.2.2 hbw (Keep.refl _ _) (fun _ _ _ => trivial) HYL.out RY.out HY.out (fun b hb => ⟨hb.1, by have := hb.2; have := HZ.out; omega, fun h => by have := hb.2; have := h.1; omega⟩) own3 gr3); have BG3 : Hid (Keep (fun b => b < w.heap.size) w4 w3) := qh (gr3.keep.mono fun b _ hb e => by have := OX7.out.lt b e; omega); have LA3 : v3 = v3 ∧ ∃ A c, v3 = .slice A (L1 ++ l).length c ∧ (L1 ++ l).length ≤ c ∧ c ≤ maxLen := ⟨rfl, GN3.out.slice⟩; obtain ⟨-, A3, c3, rfl, hA3, hc3⟩ := LA3; obtain ⟨L3, hL3⟩ : ∃ L', L' = L1 ++ l := ⟨_, rfl⟩; have hlL3 : L3.length ≤ L1.length + l.length := (by rw [hL3, List.length_append]; omega); have HL3 := qh hL3; rw [← hL3] at GN3 hA3 ⊢; clear hL3 own3 gr3; obtain ⟨xs9, G9, hxl9, ow9, hG9, hd9, hx9⟩ := GN3.out; have OW9 := qh ow9.own; have OX9 := qh ow9; have HX9 := qh (And.intro hxl9 (And.intro hG9 (And.intro hd9 hx9))); clear ow9 hxl9 hG9 hd9 hx9) | (refine wpList_appG_new w3.heap.size rfl rfl _ _ _ rfl sgT OW9.out _ 1 rfl rfl rfl (by simp [Value.oneCell']) (by simp only [maxLen]; omega) (by omega) ?_; intro v9 w9 own9 gr9; have GN9 : Hid (GrwO base w9 v9 (L3 ++ [St.mk 7 a zeroTm [] []])) := qh (grw_app (S := fun _ => True) (x := ⟨7, a, 0, 0, ⟨#[]⟩, none, 0, 0, none, 0, 0, none, 0, 0⟩) HX9.out.1 OX9.out HX9.out.2.1 HX9.out.2.2.1 HX9.out.2.2.2 (Keep.refl _ _) (fun _ _ _ => trivial) ((flatO 7 a (by unfold i64in; omega) asz.out _).sub (fun _ h => h.elim)) own9 gr9); have BG9 : Hid (Keep (fun b => b < base) w3 w9) := qh (gr9.keep.mono fun b _ hb e => by have := OX9.out.lt b e; omega); have LA9 : v9 = v9 ∧ ∃ A c, v9 = .slice A (L3 ++ [St.mk 7 a zeroTm [] []]).length c ∧ (L3 ++ [St.mk 7 a zeroTm [] []]).length ≤ c ∧ c ≤ maxLen := ⟨rfl, GN9.out.slice⟩; obtain ⟨-, A9, c9, rfl, hA9, hc9⟩ := LA9; obtain ⟨L9, hL9⟩ : ∃ L', L' = L3 ++ [St.mk 7 a zeroTm [] []] := ⟨_, rfl⟩; have hlL9 : L9.length ≤ L3.length + 1 := (by rw [hL9]; simp); have HL9 := qh hL9; rw [← hL9] at GN9 hA9 ⊢; clear hL9 own9 gr9))
  have P9 : Hid (Keep (fun b => b < base ∧ b ≠ p) w w9) := qh (((P4.out.trans BG3.out (fun b hb _ => hb)).mono (fun b _ (h : b < base ∧ b ≠ p) => h.2)).trans BG9.out (fun b _ h => h.1))
  have C9 : Hid (CurAt w9 p A c code kz) := qh ⟨by rw [BG9.out.block p (by have := BG3.out.size; have := lt_of_block K4.out.at'; omega) hpb, BG3.out.block p (lt_of_block K4.out.at') hpl]; exact K4.out.at', K4.out.le⟩
  exact HRet.out L9 kz A9 c9 w9 (by rw [HL9.out, HL3.out, HL1.out, ← HAE.out]; exact EO.out _ _ _ _ _ _ (by first | exact rfl | exact HX.out) HYE.out (by rw [HAE.out, HBE.out]; exact hab) HZE.out hz) hA9 hc9 GN9.out C9.out P9.out
def PrO (w : World) (G : Nat → Prop) (x : V2) (p : Pr) : Prop := p.name = x.s ∧ x.m = p.body.length ∧ x.s.size ≤ maxLen ∧ p.body.length ≤ x.c ∧ x.c ≤ maxLen ∧ StRowO w G x.A p.body
theorem PrO.keep {w w' : World} {G : Nat → Prop} {x : V2} {p : Pr} (h : PrO w G x p) (hk : ∀ b, G b → w'.heap[b]? = w.heap[b]?) : PrO w' G x p := ⟨h.1, h.2.1, h.2.2.1, h.2.2.2.1, h.2.2.2.2.1, h.2.2.2.2.2.keep hk⟩
theorem PrO.sub {w : World} {G G' : Nat → Prop} {x : V2} {p : Pr} (h : PrO w G x p) (hG : ∀ b, G b → G' b) : PrO w G' x p := ⟨h.1, h.2.1, h.2.2.1, h.2.2.2.1, h.2.2.2.2.1, h.2.2.2.2.2.sub hG⟩
def GrwP (base : Nat) (w : World) (v : Value) (l : List Pr) : Prop :=
 ∃ (xs : List V2) (G : Nat → Nat → Prop), xs.length = l.length ∧ OwnX base w 40 2 v l.length (xs.flatMap V2.cells) ∧ (∀ i b, i < l.length → G i b → base ≤ b ∧ b < w.heap.size ∧ v.ownBlock ≠ some b) ∧ (∀ i j b, i < l.length → j < l.length → i ≠ j → G i b → G j b → False) ∧ ∀ i (h : i < l.length) (h' : i < xs.length), PrO w (G i) xs[i] l[i]
theorem GrwP.slice {base : Nat} {w : World} {v : Value} {l : List Pr} (h : GrwP base w v l) : ∃ A c, v = .slice A l.length c ∧ l.length ≤ c ∧ c ≤ maxLen := by
 obtain ⟨xs, G, hl, ow, _⟩ := h
 obtain ⟨A, c, rfl, hc⟩ := own_slice ow.1
 exact ⟨A, c, rfl, hc, own_cap' ow.own⟩
theorem GrwP.nil {base : Nat} {w : World} (hb : base ≤ w.heap.size) : GrwP base w (.slice none 0 0) [] :=
 ⟨[], fun _ _ => False, rfl, ⟨World.ownsRow_nil _ _ _ _, hb⟩, fun i b h => absurd h (by simp), fun i j b h => absurd h (by simp), fun i h => absurd h (by simp)⟩
theorem GrwP.empty {base : Nat} {w : World} (hb : base ≤ w.heap.size) : GrwP base (w.alloc (.cells #[] 40)) (.slice (some ⟨w.heap.size, 0, none⟩) 0 0) [] :=
 ⟨[], fun _ _ => False, rfl, ⟨World.ownsRow_lit w #[] 0 hb (by simp [maxLen]) rfl, by simp; omega⟩, fun i b h => absurd h (by simp), fun i j b h => absurd h (by simp), fun i h => absurd h (by simp)⟩
theorem GrwP.keep {base : Nat} {w w' : World} {v : Value} {l : List Pr} {S : Nat → Prop} (h : GrwP base w v l) (hk : Keep S w w') (hS : ∀ b, base ≤ b → b < w.heap.size → S b) : GrwP base w' v l := by
 obtain ⟨xs, G, hl, ow, hG, hd, hx⟩ := h
 refine ⟨xs, G, hl, ow.keep hk (fun b hb => hS b (ow.lt b hb).1 (ow.lt b hb).2), fun i b hi hb => ?_, hd, fun i hi hi' => (hx i hi hi').keep fun b hb => ?_⟩
 ·have := hG i b hi hb
  exact ⟨this.1, Nat.lt_of_lt_of_le this.2.1 hk.size, this.2.2⟩
 ·have := hG i b hi hb
  exact hk.block b this.2.1 (hS b this.1 this.2.1)
theorem GrwP.below {base : Nat} {w w' : World} {v : Value} {l : List Pr} (h : GrwP base w v l) (hb : Below w.heap.size w w') : GrwP base w' v l := h.keep (Keep.of_below (S := fun _ => True) hb) (fun _ _ _ => trivial)
theorem GrwP.row {base : Nat} {w : World} {A : Option Addr} {c : Nat} {l : List Pr} (h : GrwP base w (.slice A l.length c) l) : PrRowO w (fun b => base ≤ b ∧ b < w.heap.size) A l := by
 obtain ⟨xs, G, hl, ow, hG, hd, hx⟩ := h
 refine ⟨_, G, ⟨ow.own.rd, fun hn => ?_, fun i b hi hb => ⟨(hG i b hi hb).1, (hG i b hi hb).2.1⟩, hd⟩, fun i h => ⟨xs[i], flat_chunk V2.cells 2 v2_len xs i (by omega), hx i h (by omega)⟩⟩
 rcases ow.1.2 with ⟨h, _⟩ | ⟨g, cap, cur, h, hb, hg, _⟩
 ·injection h with _ h2; omega
 ·injection h with h1 h2
  subst h1
  exact ⟨g, 0, cur, _, rfl, ⟨hb, lt_of_block hg⟩, hg, fun i hi hb => (hG i g hi hb).2.2 rfl⟩
def GrwS (base : Nat) (w : World) (v : Value) (l : List ByteArray) : Prop := OwnX base w 9 1 v l.length (l.map Value.string) ∧ ∀ s ∈ l, s.size ≤ maxLen
theorem GrwS.slice {base : Nat} {w : World} {v : Value} {l : List ByteArray} (h : GrwS base w v l) : ∃ A c, v = .slice A l.length c ∧ l.length ≤ c ∧ c ≤ maxLen := by
 obtain ⟨A, c, rfl, hc⟩ := own_slice h.1.1
 exact ⟨A, c, rfl, hc, own_cap' h.1.own⟩
theorem GrwS.nil {base : Nat} {w : World} (hb : base ≤ w.heap.size) : GrwS base w (.slice none 0 0) [] := ⟨⟨World.ownsRow_nil _ _ _ _, hb⟩, fun s h => absurd h (by simp)⟩
theorem GrwS.empty {base : Nat} {w : World} (hb : base ≤ w.heap.size) : GrwS base (w.alloc (.cells #[] 9)) (.slice (some ⟨w.heap.size, 0, none⟩) 0 0) [] := ⟨⟨World.ownsRow_lit w #[] 0 hb (by simp [maxLen]) rfl, by simp; omega⟩, fun s h => absurd h (by simp)⟩
theorem GrwS.keep {base : Nat} {w w' : World} {v : Value} {l : List ByteArray} {S : Nat → Prop} (h : GrwS base w v l) (hk : Keep S w w') (hS : ∀ b, base ≤ b → b < w.heap.size → S b) : GrwS base w' v l := ⟨h.1.keep hk (fun b hb => hS b (h.1.lt b hb).1 (h.1.lt b hb).2), h.2⟩
theorem GrwS.below {base : Nat} {w w' : World} {v : Value} {l : List ByteArray} (h : GrwS base w v l) (hb : Below w.heap.size w w') : GrwS base w' v l := h.keep (Keep.of_below (S := fun _ => True) hb) (fun _ _ _ => trivial)
theorem GrwS.app {base : Nat} {w1 w2 : World} {v v' : Value} {l : List ByteArray} {x : ByteArray} (h : GrwS base w1 v l) (hx : x.size ≤ maxLen) (own3 : Own (cutX base w1) w2 9 1 v' (l.length + 1) (l.map Value.string ++ [.string x])) : GrwS base w2 v' (l ++ [x]) := by
 refine ⟨?_, fun s hs => ?_⟩
 ·rw [List.length_append, List.map_append]
  exact OwnX.of h.1.2 own3
 ·rcases List.mem_append.1 hs with h1 | h1
  ·exact h.2 s h1
  ·rw [List.mem_singleton.1 h1]; exact hx
theorem GrwS.row {base : Nat} {w : World} {A : Option Addr} {c : Nat} {l : List ByteArray} (h : GrwS base w (.slice A l.length c) l) : StrRowO w (fun b => base ≤ b ∧ b < w.heap.size) A l :=
 RowOf.subR (OwnStrs.rowO (w0 := cutX base w) h.1.own h.2) (fun b hb => ⟨by have := hb.1; rw [cutX_size h.1.2] at this; exact this, hb.2⟩)
end Go.Proofs.YtnmblfonmfjoeaaGreatDoor
