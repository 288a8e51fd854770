/- Several texts in one: FxG. -/
import Derived.Test.YtadcebdhgocmhaaKs33
namespace Go.Proofs.Ytadcebdhgocmhaa
open Go.RowKit
set_option linter.unusedVariables false


def RetLG (w : World) (p : Nat) (A : Option Addr) (c : Nat) (code : List UInt8) (r : List St × Cur) (e : Ending) (w' : World) : Prop :=
  ∃ A' c', e = .returned (.slice A' r.1.length c') ∧ r.1.length ≤ c' ∧ c' ≤ maxLen ∧ GrwO w.heap.size w' (.slice A' r.1.length c') r.1 ∧ CurAt w' p A c code r.2 ∧ Keep (fun b => b ≠ p) w w'
abbrev DlG (d : Nat) : Prop := ∀ (p : Nat) (A : Option Addr) (c : Nat) (code : List UInt8) (k : Cur) (w : World), Rd w 1 A code.length (bv code) → code.length ≤ 1048576 → c ≤ maxLen → CurAt w p A c code k →
  Calls Try.prog 63 #[.pointer (some ⟨p, 0, none⟩), .int .i64 (d : Int)] w (RetLG w p A c code (lstS code (stS code d) k))
set_option maxHeartbeats 1600000 in
set_option maxRecDepth 100000 in
theorem spec_l04ListG (d : Nat) (hd : d ≤ 100) : DlG d := by
  have ih := spec_l04Stmt d hd
  intro p A c code k w rd hl hc hk
  have RD := Lib.hid rd
  have HK := Lib.hid hk
  have IH := Lib.hid ih
  have hpl := lt_of_block hk.at'
  clear rd hk ih
  go_enter Try.func63, Try.ntmps63
  go_wp2_with fail
  go_loopw [5, 6] (fun v i wr => ∃ (acc : List St) (kc : Cur), acc.length ≤ 3 ∧ i = .int .i64 (acc.length : Int) ∧ Hid (GrwO w.heap.size wr v acc ∧ CurAt wr p A c code kc ∧ Keep (fun b => b ≠ p) w wr ∧ Rd wr 1 A code.length (bv code) ∧ listS code (stS code d) (3 - acc.length) acc.length acc kc = lstS code (stS code d) k)) (fun _ i _ => 4 - (intOf i).toNat)
  case atStart => exact ⟨[], k, by simp, rfl, Lib.hid ⟨GrwO.empty (Nat.le_refl _), HK.out.keep (by repeat' (first | exact Below.refl _ _ | exact Nat.le_refl _ | (refine Below.alloc ?_ ?_ _) | (refine Below.setCell ?_ ?_ _) | (refine Below.drew ?_) | (refine below_drewN ?_ _) | assumption | (simp; done) | (simp; omega))), Keep.alloc (Keep.refl _ _) _, RD.out.alloc _, rfl⟩⟩
  case round =>
    obtain ⟨acc, kc, hj, rfl, HR⟩ := hrel
    obtain ⟨hgr, hcu, hkp, hrd, hls⟩ := HR.out
    obtain ⟨A', c', rfl, hc1, hc2⟩ := hgr.slice
    have GR := Lib.hid hgr
    have CU := Lib.hid hcu
    have KP := Lib.hid hkp
    have RR := Lib.hid hrd
    have hsz := hkp.size
    have hb := belowD_bd code (n := 4) (by decide) kc
    have LS := Lib.hid hls
    clear hgr hcu hkp hrd hls HR
    go_wp2_with fail
    refine (spec_l01Below 4 p A c code kc _ RR.out hl hc CU.out (by omega)).mono ?_
    rintro e w1 ⟨rfl, k1, kp1⟩
    have K1 := Lib.hid k1
    have P1 := Lib.hid (KP.out.trans kp1 (fun _ _ h => h))
    have R1 := Lib.hid (rd_apart RR.out CU.out kp1)
    have G1 := Lib.hid (GR.out.keep kp1 (fun b hb _ => by omega))
    have hs1 := kp1.size
    have SM := Lib.hid (@listS_more code (stS code d) (3 - (acc.length + 1)) acc.length acc kc)
    have SP := Lib.hid (@listS_stop code (stS code d) (3 - acc.length) acc.length acc kc)
    clear k1 kp1 GR KP RR CU
    generalize belowD code 4 kc = y at *
    obtain ⟨x, k1⟩ := y
    simp only at hb K1
    by_cases hlt : (acc.length : Int) < x
    · have hj3 : 3 - (acc.length + 1) + 1 = 3 - acc.length := by omega
      have LM : Hid (listS code (stS code d) (3 - (acc.length + 1)) (acc.length + 1) (acc ++ [(stS code d k1).1]) (stS code d k1).2 = lstS code (stS code d) k) := Lib.hid (by
        have h1 := SM.out hlt
        rw [hj3] at h1
        rw [← LS.out]; exact h1.symm)
      clear SM SP LS hj3
      go_wp2_with fail
      refine (IH.out p A c code k1 _ R1.out hl hc K1.out).mono ?_
      rintro e w2 ⟨xx, rfl, t2, k2, kp2⟩
      have T2 := Lib.hid t2
      have K2 := Lib.hid k2
      have R2 := Lib.hid (rd_apart R1.out K1.out kp2)
      have P2 := Lib.hid (P1.out.trans kp2 (fun _ _ h => h))
      have Q2 := Lib.hid kp2
      have hs2 := kp2.size
      clear t2 k2 kp2
      obtain ⟨xs, G, hxl, ow, hG, hd, hx⟩ := G1.out
      have OW := Lib.hid (ow.keep Q2.out (fun b hb => by have := (ow.lt b hb).1; omega)).own
      have OX := Lib.hid ow
      have HX := Lib.hid (And.intro hxl (And.intro hG (And.intro hd hx)))
      clear ow hxl hG hd hx
      go_wp2_with (at_builtin; refine wpList_appG_new w2.heap.size rfl rfl _ _ _ rfl sgT OW.out _ 1 rfl rfl rfl (by simp [Value.oneCell']) (by simp only [maxLen]; omega) (by omega) ?_; intro v3 w3 own3 gr3)
      have GN : Hid (GrwO w.heap.size w3 v3 (acc ++ [(stS code d k1).1])) := Lib.hid (grw_app (S := fun b => b ≠ p) HX.out.1 OX.out HX.out.2.1 HX.out.2.2.1 HX.out.2.2.2 Q2.out (fun b hb _ => by omega) T2.out own3 gr3)
      have OKB : Hid (∀ b, b < w.heap.size → (.slice A' acc.length c' : Value).ownBlock ≠ some b) := Lib.hid fun b hb e => by have := OX.out.lt b e; omega
      have BG : Hid (Keep (fun b => b < w.heap.size) w2 w3) := Lib.hid (gr3.keep.mono fun b _ hb => OKB.out b hb)
      have K3 : Hid (CurAt w3 p A c code (stS code d k1).2) := Lib.hid ⟨(BG.out.block p (lt_of_block K2.out.at') hpl).trans K2.out.at', K2.out.le⟩
      have P3 : Hid (Keep (fun b => b ≠ p) w w3) := Lib.hid (P2.out.trans BG.out (fun b hb _ => hb))
      clear own3 gr3
      go_wp2_with fail
      go_roundw
      case rel => exact ⟨acc ++ [(stS code d k1).1], (stS code d k1).2, by simp; omega, by simp, Lib.hid ⟨GN.out, K3.out, P3.out, rd_apart RD.out HK.out P3.out, by rw [List.length_append]; exact LM.out⟩⟩
      case measure => simp [intOf]; omega
    · have LE : Hid ((acc, k1) = lstS code (stS code d) k) := Lib.hid (by rw [← LS.out]; exact (SP.out hlt).symm)
      clear SM SP LS
      go_wp2_with fail
      go_ret
      rw [← LE.out]
      exact ⟨A', c', rfl, hc1, hc2, G1.out, K1.out, P1.out⟩
theorem v8_one (xs : List V8) : ∀ u ∈ xs.flatMap V8.cells, u.oneCell' = true := by
  intro u hu
  obtain ⟨x, _, hx⟩ := List.mem_flatMap.1 hu
  simp only [V8.cells, List.mem_cons, List.not_mem_nil, or_false] at hx
  rcases hx with rfl | rfl | rfl | rfl | rfl | rfl | rfl | rfl <;> rfl
theorem OwnX.mono {base base' : Nat} {w : World} {e : TypeId} {sz n : Nat} {v : Value} {xs : List Value} (h : OwnX base' w e sz v n xs) (hb : base ≤ base') : OwnX base w e sz v n xs := by
  refine ⟨⟨h.1.1, ?_⟩, Nat.le_trans hb h.2⟩
  rcases h.1.2 with h' | ⟨g, cap, cur, e, hg, r⟩
  · exact .inl h'
  · exact .inr ⟨g, cap, cur, e, Nat.le_trans hb hg, r⟩
theorem GrwO.mono {base base' : Nat} {w : World} {v : Value} {l : List St} (h : GrwO base' w v l) (hb : base ≤ base') : GrwO base w v l := by
  obtain ⟨xs, G, hl, ow, hG, hd, hx⟩ := h
  exact ⟨xs, G, hl, ow.mono hb, fun i b hi hg => ⟨Nat.le_trans hb (hG i b hi hg).1, (hG i b hi hg).2⟩, hd, hx⟩
/-- the slice's block is the slice's alone -/
def CapO (w : World) (F : Nat → Prop) (A : Option Addr) (n c : Nat) : Prop :=
  (A = none ∧ c = 0 ∧ n = 0) ∨ ∃ (g : Nat) (cur : Array Value), A = some ⟨g, 0, none⟩ ∧ F g ∧ w.heap[g]? = some (.cells cur 36 (0, 0)) ∧ n ≤ c ∧ c ≤ maxLen ∧ cur.size = c * 8
theorem CapO.keep {w w' : World} {F : Nat → Prop} {A : Option Addr} {n c : Nat} (h : CapO w F A n c) (hk : ∀ b, F b → w'.heap[b]? = w.heap[b]?) : CapO w' F A n c := by
  rcases h with h | ⟨g, cur, e, hF, hg, r⟩
  · exact .inl h
  · exact .inr ⟨g, cur, e, hF, (hk g hF).trans hg, r⟩
theorem CapO.shp {w w' : World} {F : Nat → Prop} {A : Option Addr} {n c : Nat} (h : CapO w F A n c) (hs : Shp w w') : CapO w' F A n c := by
  rcases h with h | ⟨g, cur, e, hF, hg, h1, h2, h3⟩
  · exact .inl h
  · obtain ⟨cur', e1, e2⟩ := hs g cur _ _ hg
    exact .inr ⟨g, cur', e, hF, e1, h1, h2, by rw [e2]; exact h3⟩
theorem CapO.sub {w : World} {F F' : Nat → Prop} {A : Option Addr} {n c : Nat} (h : CapO w F A n c) (hF : ∀ b, F b → F' b) : CapO w F' A n c := by
  rcases h with h | ⟨g, cur, e, h1, r⟩
  · exact .inl h
  · exact .inr ⟨g, cur, e, hF g h1, r⟩
theorem GrwO.cap {base : Nat} {w : World} {A : Option Addr} {c : Nat} {l : List St} (h : GrwO base w (.slice A l.length c) l) : CapO w (fun b => base ≤ b ∧ b < w.heap.size) A l.length c := by
  obtain ⟨xs, G, hl, ow, hG, hd, hx⟩ := h
  rcases ow.1.2 with ⟨h1, h2⟩ | ⟨g, cap, cur, h1, hb, hg, h3, h4, h5, _⟩
  · injection h1 with e1 e2 e3; exact .inl ⟨e1, e3, h2⟩
  · injection h1 with e1 e2 e3; subst e3; exact .inr ⟨g, cur, e1, ⟨hb, lt_of_block hg⟩, hg, h3, h4, h5⟩
theorem GrwO.rowB {base : Nat} {w : World} {A : Option Addr} {c : Nat} {l : List St} (h : GrwO base w (.slice A l.length c) l) : StRowO w (fun b => base ≤ b ∧ b < w.heap.size) A l := by
  obtain ⟨xs, G, hl, ow, hG, hd, hx⟩ := h
  refine stRowO_of (xs := xs) (G := G) hl ⟨ow.own.rd, fun hn => ?_, fun i b hi hb => ⟨(hG i b hi hb).1, (hG i b hi hb).2.1⟩, hd⟩ hx
  rcases ow.1.2 with ⟨h, _⟩ | ⟨g, cap, cur, h, hb, hg, _⟩
  · injection h with _ h2; omega
  · injection h with h1 h2
    subst h1
    exact ⟨g, 0, cur, _, rfl, ⟨hb, lt_of_block hg⟩, hg, fun i hi hb => (hG i g hi hb).2.2 rfl⟩
/-- one statement in a new row -/
theorem grwO_lit (x : V8) (g : St) (w : World) (h : ∀ w', StO w' (fun _ => False) x g) : GrwO w.heap.size (w.alloc (.cells x.cells.toArray 36)) (.slice (some ⟨w.heap.size, 0, none⟩) 1 1) [g] := by
  refine ⟨[x], fun _ _ => False, rfl, ⟨?_, by simp⟩, fun i b hi hb => hb.elim, fun i j b hi hj hne h1 h2 => h1, fun i hi hi' => ?_⟩
  · have := World.ownsRow_lit (base := w.heap.size) (e := 36) (size := 8) w x.cells.toArray 1 (Nat.le_refl _) (by simp [maxLen]) rfl
    simpa using this
  · have h0 : i = 0 := by simp at hi; omega
    subst h0
    exact h _
theorem flatO (k : Int) (s : ByteArray) (hk : i64in k) (hs : s.size ≤ maxLen) (w : World) : StO w (fun _ => False) ⟨k, s, 0, 0, ⟨#[]⟩, none, 0, 0, none, 0, 0, none, 0, 0⟩ (.mk k s zeroTm [] []) := stO_flat hk hs zeroO (fun _ h => h)
/-- a row put behind another, whose memory lies apart -/
theorem grw_cat {base b1 : Nat} {w0 w1 w2 : World} {v v' : Value} {l l2 : List St} {xs ys : List V8} {G GY : Nat → Nat → Prop} {A2 : Option Addr} {F : Nat → Prop} {S : Nat → Prop}
    (hl : xs.length = l.length) (ow : OwnX b1 w0 36 8 v l.length (xs.flatMap V8.cells)) (hG : ∀ i b, i < l.length → G i b → b1 ≤ b ∧ b < w0.heap.size ∧ v.ownBlock ≠ some b) (hd : ∀ i j b, i < l.length → j < l.length → i ≠ j → G i b → G j b → False) (hx : ∀ i (h : i < l.length) (h' : i < xs.length), StO w0 (G i) xs[i] l[i])
    (hbb : base ≤ b1) (hk : Keep S w0 w1) (hS : ∀ b, b1 ≤ b → b < w0.heap.size → S b)
    (hyl : ys.length = l2.length) (ry : RowO w1 F 8 A2 l2.length (ys.flatMap V8.cells) GY) (hy : ∀ i (h : i < l2.length) (h' : i < ys.length), StO w1 (GY i) ys[i] l2[i])
    (hF : ∀ b, F b → base ≤ b ∧ b < w1.heap.size ∧ ¬ (b1 ≤ b ∧ b < w0.heap.size))
    (own3 : Own (cutX b1 w1) w2 36 8 v' (l.length + l2.length) (xs.flatMap V8.cells ++ ys.flatMap V8.cells)) (gr : Grew v v' w1 w2) : GrwO base w2 v' (l ++ l2) := by
  have h01 := hk.size
  have h12 := gr.keep.size
  have hb0 := ow.2
  have hlt := ow.lt
  have key : ∀ b, b < w1.heap.size → v.ownBlock ≠ some b → v'.ownBlock ≠ some b := by
    intro b hb hv e
    rcases gr.lies with h1 | ⟨q, h1, h2⟩
    · exact hv (h1 ▸ e)
    · rw [h1] at e; injection e with e; omega
  have hFn : ∀ b, F b → v.ownBlock ≠ some b := fun b hb e => (hF b hb).2.2 (hlt b e)
  have hGF := ry.2.2.1
  refine ⟨xs ++ ys, fun i b => if i < l.length then G i b else GY (i - l.length) b, by simp [hl, hyl], ?_, fun i b hi hb => ?_, fun i j b hi hj hne h1 h2 => ?_, fun i hi hi' => ?_⟩
  · rw [List.length_append, List.flatMap_append]
    exact (OwnX.of (by omega) own3).mono hbb
  · rw [List.length_append] at hi
    by_cases e : i < l.length
    · simp only [e, if_true] at hb
      have := hG i b e hb
      exact ⟨by omega, by omega, key b (by omega) this.2.2⟩
    · simp only [e, if_false] at hb
      have hf := hGF _ b (by omega) hb
      have := hF b hf
      exact ⟨this.1, by omega, key b this.2.1 (hFn b hf)⟩
  · rw [List.length_append] at hi hj
    by_cases e : i < l.length
    · by_cases e' : j < l.length
      · simp only [e, e', if_true] at h1 h2; exact hd i j b e e' hne h1 h2
      · simp only [e, e', if_true, if_false] at h1 h2
        have := hG i b e h1
        exact (hF b (hGF _ b (by omega) h2)).2.2 ⟨this.1, this.2.1⟩
    · by_cases e' : j < l.length
      · simp only [e, e', if_true, if_false] at h1 h2
        have := hG j b e' h2
        exact (hF b (hGF _ b (by omega) h1)).2.2 ⟨this.1, this.2.1⟩
      · simp only [e, e', if_false] at h1 h2
        exact ry.2.2.2 _ _ b (by omega) (by omega) (by omega) h1 h2
  · rw [List.length_append] at hi
    by_cases e : i < l.length
    · have e2 : i < xs.length := by omega
      simp only [e, if_true]
      rw [List.getElem_append_left e2, List.getElem_append_left e]
      have hb := fun b hb => hG i b e hb
      exact ((hx i e e2).keep fun b q => hk.block b (hb b q).2.1 (hS b (hb b q).1 (hb b q).2.1)).keep fun b q => gr.keep.block b (by have := (hb b q).2.1; omega) (hb b q).2.2
    · simp only [e, if_false]
      rw [List.getElem_append_right (by omega), List.getElem_append_right (by omega)]
      have hh : ∀ m (hm : m < ys.length) (hm' : m < l2.length), m = i - l.length → StO w2 (GY (i - l.length)) ys[m] l2[m] := by
        intro m hm hm' em
        subst em
        exact (hy _ hm' hm).keep fun b q => gr.keep.block b (hF b (hGF _ b hm' q)).2.1 (hFn b (hGF _ b hm' q))
      have e3 : xs.length = l.length := hl
      simp only [e3]
      exact hh (i - l.length) (by omega) (by omega) rfl
end Go.Proofs.Ytadcebdhgocmhaa
