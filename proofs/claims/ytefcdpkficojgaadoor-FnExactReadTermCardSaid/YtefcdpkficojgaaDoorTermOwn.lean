/- Terms whose memory is their own, each row in a block apart: copying gives such terms; marking writes into them and into nothing else; what is held is what was marked. -/
import Derived.Test.YtefcdpkficojgaaDoorTermHelp
import Derived.Test.YtefcdpkficojgaaDoorMark
import Derived.Test.YtefcdpkficojgaaDoorOwned
namespace Go.Proofs.YtefcdpkficojgaaDoor
open Go.RowKit
set_option linter.unusedVariables false

/-- a term whose kids' memory lies in blocks of F, each row apart -/
inductive TmO (w : World) : (Nat → Prop) → List Value → Tm → Prop
  | mk (F : Nat → Prop) (k n : Int) (s : ByteArray) (A : Option Addr) (c : Nat) (cs : List Value) (kids : List Tm) (G : Nat → Nat → Prop) (hk : i64in k) (hn : i64in n) (hs : s.size ≤ maxLen) (hl : kids.length ≤ c) (hc : c ≤ maxLen) (row : RowO w F 4 A kids.length cs G)
      (hx : ∀ i (h : i < kids.length), TmO w (G i) ((cs.drop (i * 4)).take 4) kids[i]) : TmO w F [.int .i64 k, .int .i64 n, .string s, .slice A kids.length c] (.mk k n s kids)
def TmRowO (w : World) (F : Nat → Prop) (A : Option Addr) (ts : List Tm) : Prop :=
  ∃ cs G, RowO w F 4 A ts.length cs G ∧ ∀ i (h : i < ts.length), TmO w (G i) ((cs.drop (i * 4)).take 4) ts[i]
theorem TmO.inv {F : Nat → Prop} {w : World} {k n : Int} {s : ByteArray} {A : Option Addr} {m c : Nat} {t : Tm} (h : TmO w F [.int .i64 k, .int .i64 n, .string s, .slice A m c] t) :
    ∃ kids, t = .mk k n s kids ∧ m = kids.length ∧ kids.length ≤ c ∧ c ≤ maxLen ∧ i64in k ∧ i64in n ∧ s.size ≤ maxLen ∧ TmRowO w F A kids := by
  cases h with
  | mk _ _ _ _ _ _ cs kids G hk hn hs hl hc row hx => exact ⟨kids, rfl, rfl, hl, hc, hk, hn, hs, cs, G, row, hx⟩
theorem TmO.mk' {F : Nat → Prop} {w : World} {k n : Int} {s : ByteArray} {A : Option Addr} {c : Nat} {kids : List Tm} (hk : i64in k) (hn : i64in n) (hs : s.size ≤ maxLen) (hl : kids.length ≤ c) (hc : c ≤ maxLen) (row : TmRowO w F A kids) :
    TmO w F [.int .i64 k, .int .i64 n, .string s, .slice A kids.length c] (.mk k n s kids) := by
  obtain ⟨cs, G, r, hx⟩ := row
  exact .mk F k n s A c cs kids G hk hn hs hl hc r hx
theorem TmO.form {F : Nat → Prop} {w : World} {cs : List Value} {t : Tm} (h : TmO w F cs t) : ∃ k n s A m c, cs = [.int .i64 k, .int .i64 n, .string s, .slice A m c] := by
  cases h with
  | mk _ k n s A c cs kids G hk hn hs hl hc row hx => exact ⟨k, n, s, A, _, c, rfl⟩
theorem TmO.sub {F F' : Nat → Prop} {w : World} {cs : List Value} {t : Tm} (h : TmO w F cs t) (hF : ∀ b, F b → F' b) : TmO w F' cs t := by
  cases h with
  | mk _ k n s A c cs kids G hk hn hs hl hc row hx => exact .mk F' k n s A c cs kids G hk hn hs hl hc (row.sub hF) hx
theorem TmRowO.sub {F F' : Nat → Prop} {w : World} {A : Option Addr} {ts : List Tm} (h : TmRowO w F A ts) (hF : ∀ b, F b → F' b) : TmRowO w F' A ts := by
  obtain ⟨cs, G, r, hx⟩ := h
  exact ⟨cs, G, r.sub hF, hx⟩
theorem TmO.keep {F : Nat → Prop} {w w' : World} {cs : List Value} {t : Tm} (h : TmO w F cs t) (hk : ∀ b, F b → w'.heap[b]? = w.heap[b]?) : TmO w' F cs t := by
  induction h with
  | mk F k n s A c cs kids G h1 h2 h3 hl hc row hx ih => exact .mk F k n s A c cs kids G h1 h2 h3 hl hc (row.keep hk) fun i hi => ih i hi fun b hb => hk b (row.2.2.1 i b hi hb)
theorem TmRowO.keep {F : Nat → Prop} {w w' : World} {A : Option Addr} {ts : List Tm} (h : TmRowO w F A ts) (hk : ∀ b, F b → w'.heap[b]? = w.heap[b]?) : TmRowO w' F A ts := by
  obtain ⟨cs, G, row, hx⟩ := h
  exact ⟨cs, G, row.keep hk, fun i hi => (hx i hi).keep fun b hb => hk b (row.2.2.1 i b hi hb)⟩
theorem TmO.is {F : Nat → Prop} {w : World} {cs : List Value} {t : Tm} (h : TmO w F cs t) : TmIs (Pl w F) w cs t := by
  induction h with
  | mk F k n s A c cs kids G h1 h2 h3 hl hc row hx ih =>
    refine .mk k n s A c cs kids h1 h2 h3 hl hc row.1 (fun b off e hn => ?_) fun i hi => (ih i hi).keep (fun _ _ _ => rfl) (fun b _ ⟨q1, q2⟩ => ⟨row.2.2.1 i b hi q1, q2⟩)
    subst e
    exact (row.lt hn).2
theorem TmRowO.is {F : Nat → Prop} {w : World} {A : Option Addr} {ts : List Tm} (h : TmRowO w F A ts) : TmRow (Pl w F) w A ts := by
  obtain ⟨cs, G, row, hx⟩ := h
  refine ⟨cs, row.1, fun b off e hn => ?_, fun i hi => (hx i hi).is.keep (fun _ _ _ => rfl) (fun b _ ⟨q1, q2⟩ => ⟨row.2.2.1 i b hi q1, q2⟩)⟩
  subst e
  exact (row.lt hn).2
theorem TmO.any {F : Nat → Prop} {w : World} {cs : List Value} {t : Tm} (h : TmO w F cs t) : TmIs AnyB w cs t := h.is.any
theorem TmRowO.any {F : Nat → Prop} {w : World} {A : Option Addr} {ts : List Tm} (h : TmRowO w F A ts) : TmRow AnyB w A ts := h.is.any
theorem TmO.fr {w w' W : World} {cs : List Value} {t : Tm} (h : TmO W (Made w w') cs t) : TmIs (Fr w.heap.size W) W cs t := h.is.keep (fun _ _ _ => rfl) (fun b _ ⟨q1, q2⟩ => ⟨q1.1, q2⟩)
theorem TmRowO.fr {w w' W : World} {A : Option Addr} {ts : List Tm} (h : TmRowO W (Made w w') A ts) : TmRow (Fr w.heap.size W) W A ts := h.is.keep (fun _ _ _ => rfl) (fun b _ ⟨q1, q2⟩ => ⟨q1.1, q2⟩)
theorem TmO.belowO {w1 w2 : World} {F : Nat → Prop} {cs : List Value} {t : Tm} (h : TmO w1 F cs t) (hF : ∀ b, F b → b < w1.heap.size) (hb : Below w1.heap.size w1 w2) : TmO w2 F cs t := h.keep fun b hF' => hb.block b (hF b hF')
theorem TmRowO.belowO {w1 w2 : World} {F : Nat → Prop} {A : Option Addr} {ts : List Tm} (h : TmRowO w1 F A ts) (hF : ∀ b, F b → b < w1.heap.size) (hb : Below w1.heap.size w1 w2) : TmRowO w2 F A ts := h.keep fun b hF' => hb.block b (hF b hF')
theorem TmO.set {w : World} {F : Nat → Prop} {cs : List Value} {t : Tm} (h : TmO w F cs t) {p : Addr} (hp : ¬ F p.block) (u : Value) : TmO (w.setCell p u) F cs t := h.keep fun b hb => Below.heap_setCell w p u b (fun e => hp (by rw [← e]; exact hb))
theorem TmRowO.set {w : World} {F : Nat → Prop} {A : Option Addr} {ts : List Tm} (h : TmRowO w F A ts) {p : Addr} (hp : ¬ F p.block) (u : Value) : TmRowO (w.setCell p u) F A ts := h.keep fun b hb => Below.heap_setCell w p u b (fun e => hp (by rw [← e]; exact hb))
theorem TmO.put4 {w : World} {F : Nat → Prop} {cs : List Value} {t : Tm} (h : TmO w F cs t) {g : Nat} (hg : ¬ F g) (o : Nat) (x : V4) : TmO (put4 w g o x) F cs t :=
  (((h.set (p := ⟨g, o, none⟩) hg _).set (p := ⟨g, o + 1, none⟩) hg _).set (p := ⟨g, o + 2, none⟩) hg _).set (p := ⟨g, o + 3, none⟩) hg _
/-- what a copy comes back as: all its memory is new, and apart -/
def RetTO (w : World) (t : Tm) (e : Ending) (w' : World) : Prop := ∃ k n s A m c, e = .returned (.agg #[.int .i64 k, .int .i64 n, .string s, .slice A m c]) ∧ TmO w' (Made w w') [.int .i64 k, .int .i64 n, .string s, .slice A m c] t ∧ Below w.heap.size w w'
def RetTsO (w : World) (ts : List Tm) (e : Ending) (w' : World) : Prop := ∃ A c, e = .returned (.slice A ts.length c) ∧ ts.length ≤ c ∧ c ≤ maxLen ∧ TmRowO w' (Made w w') A ts ∧ Below w.heap.size w w'
abbrev ToO (t : Tm) : Prop := ∀ (k n : Int) (s : ByteArray) (A : Option Addr) (m c : Nat) (w : World), TmIs AnyB w [.int .i64 k, .int .i64 n, .string s, .slice A m c] t → totT t ≤ 1048576 →
  Calls Tryd.prog 142 #[.agg #[.int .i64 k, .int .i64 n, .string s, .slice A m c]] w (RetTO w t)
set_option maxHeartbeats 400000 in
theorem laws_toTermSO (ts : List Tm) (ih : ∀ t ∈ ts, ToO t) (A : Option Addr) (c : Nat) (w : World) (row : TmRow AnyB w A ts) (hl : ts.length ≤ c) (hc : c ≤ maxLen) (ht : totTs ts ≤ 1048576) :
    Calls Tryd.prog 191 #[.slice A ts.length c] w (RetTsO w ts) := by
  unfold maxLen at hc
  have IH := Lib.hid ih
  have RW := Lib.hid row
  have hlen := totTs_len ts
  have HT := Lib.hid (fun t (hm : t ∈ ts) => show totT t ≤ 1048576 from by have := totTs_le hm; omega)
  clear ih row
  go_enter Tryd.func191, Tryd.ntmps191
  go_wp2_with (at_make; refine wpList_mkN rfl _ _ 22 rfl tmT f4 f4_len z4 _ tmZ rfl (Below.refl _ _) _ _ _ _ ts.length rfl rfl rfl rfl (by omega) (by simp only [maxLen]; omega) ?_; intro w1 own1 hlt1 hg1)
  go_loopw [4] (fun i wr => ∃ us : List V4, us.length ≤ ts.length ∧ i = .int .i64 (us.length : Int) ∧ Own w wr 24 4 (.slice (some ⟨w.heap.size, 0, none⟩) ts.length ts.length) ts.length ((us ++ List.replicate (ts.length - us.length) z4).flatMap f4) ∧ w.heap.size < wr.heap.size ∧ Hid (∃ G : Nat → Nat → Prop, (∀ k b, k < us.length → G k b → w.heap.size < b ∧ b < wr.heap.size) ∧ (∀ i j b, i < us.length → j < us.length → i ≠ j → G i b → G j b → False) ∧ ∀ k (hk : k < ts.length) (hk' : k < us.length), TmO wr (G k) (f4 us[k]) ts[k])) (fun i _ => ts.length - (intOf i).toNat)
  case atStart => exact ⟨[], Nat.zero_le _, rfl, by simpa using own1, hlt1, Lib.hid ⟨fun _ _ => False, fun k b hk => absurd hk (by simp), fun i j b hk => absurd hk (by simp), fun k _ hk => absurd hk (by simp)⟩⟩
  case round =>
    obtain ⟨us, hk, rfl, own, hsz, HU⟩ := hrel
    have OW := Lib.hid own
    clear own own1 hlt1 hg1 hlen
    by_cases hlt : us.length < ts.length
    · obtain ⟨b, off, kd, nn, s, A', m', c', rfl, _, d0, d1, d2, d3, hterm⟩ := rd_term (RW.out.belowA OW.out.2) hlt
      have HTm := Lib.hid hterm
      clear hterm
      have h0k : (0 : Int) ≤ (us.length : Int) := by omega
      go_wp2_with fail
      refine (IH.out _ (List.getElem_mem hlt) kd nn s A' m' c' _ HTm.out (HT.out _ (List.getElem_mem hlt))).mono ?_
      rintro e w1 ⟨k1, n1, s1, A1, m1, c1, rfl, ht1, b1⟩
      have T1 := Lib.hid ht1
      have B1 := Lib.hid b1
      clear ht1 b1
      have O2 := Lib.hid (OW.out.below B1.out)
      have hp : us.length < (us ++ List.replicate (ts.length - us.length) z4).length := fill_get hlt
      obtain ⟨x0, q0⟩ : ∃ x, w1.cell? ⟨w.heap.size, us.length * 4, none⟩ = some x := ⟨_, O2.out.cellAt (j := us.length * 4) (by omega) ((flat_get f4 4 f4_len _ us.length 0 hp (by omega)).trans rfl)⟩
      obtain ⟨x1, q1⟩ : ∃ x, w1.cell? ⟨w.heap.size, us.length * 4 + 1, none⟩ = some x := ⟨_, O2.out.cellAt (j := us.length * 4 + 1) (by omega) ((flat_get f4 4 f4_len _ us.length 1 hp (by omega)).trans rfl)⟩
      obtain ⟨x2, q2⟩ : ∃ x, w1.cell? ⟨w.heap.size, us.length * 4 + 2, none⟩ = some x := ⟨_, O2.out.cellAt (j := us.length * 4 + 2) (by omega) ((flat_get f4 4 f4_len _ us.length 2 hp (by omega)).trans rfl)⟩
      obtain ⟨x3, q3⟩ : ∃ x, w1.cell? ⟨w.heap.size, us.length * 4 + 3, none⟩ = some x := ⟨_, O2.out.cellAt (j := us.length * 4 + 3) (by omega) ((flat_get f4 4 f4_len _ us.length 3 hp (by omega)).trans rfl)⟩
      have r0 := O2.out.freeAt (us.length * 4)
      have r1 := O2.out.freeAt (us.length * 4 + 1)
      have r2 := O2.out.freeAt (us.length * 4 + 2)
      have r3 := O2.out.freeAt (us.length * 4 + 3)
      have e2 := flat_sets f4 4 f4_len (us ++ List.replicate (ts.length - us.length) z4) us.length hp (vt k1 n1 s1 A1 m1 c1)
      rw [fill_set hlt] at e2
      have OS := O2.out.put4 (us.length * 4) (vt k1 n1 s1 A1 m1 c1)
      rw [e2] at OS
      have O3 := Lib.hid OS
      have HZ := Lib.hid (put4_size w1 w.heap.size (us.length * 4) (vt k1 n1 s1 A1 m1 c1))
      have hs1 := B1.out.size
      have hu : Hid (∃ G : Nat → Nat → Prop, (∀ k b, k < (us ++ [vt k1 n1 s1 A1 m1 c1]).length → G k b → w.heap.size < b ∧ b < (put4 w1 w.heap.size (us.length * 4) (vt k1 n1 s1 A1 m1 c1)).heap.size) ∧ (∀ i j b, i < (us ++ [vt k1 n1 s1 A1 m1 c1]).length → j < (us ++ [vt k1 n1 s1 A1 m1 c1]).length → i ≠ j → G i b → G j b → False) ∧ ∀ k (hk : k < ts.length) (hk' : k < (us ++ [vt k1 n1 s1 A1 m1 c1]).length), TmO (put4 w1 w.heap.size (us.length * 4) (vt k1 n1 s1 A1 m1 c1)) (G k) (f4 (us ++ [vt k1 n1 s1 A1 m1 c1])[k]) ts[k]) := by
        obtain ⟨G, hG1, hG2, hG3⟩ := HU.out
        have hz := HZ.out
        refine Lib.hid ⟨fun k b => if k < us.length then G k b else (wr.heap.size ≤ b ∧ b < w1.heap.size), fun k b hk hb => ?_, fun i j b hi hj hne h1 h2 => ?_, fun k hk hk' => ?_⟩
        · by_cases e : k < us.length
          · simp only [e, if_true] at hb; have := hG1 k b e hb; omega
          · simp only [e, if_false] at hb; omega
        · simp only [List.length_append, List.length_cons, List.length_nil] at hi hj
          by_cases e : i < us.length
          · by_cases e' : j < us.length
            · simp only [e, e', if_true] at h1 h2; exact hG2 i j b e e' hne h1 h2
            · simp only [e, e', if_true, if_false] at h1 h2; have := hG1 i b e h1; omega
          · by_cases e' : j < us.length
            · simp only [e, e', if_true, if_false] at h1 h2; have := hG1 j b e' h2; omega
            · omega
        · by_cases e : k < us.length
          · rw [List.getElem_append_left e]
            simp only [e, if_true]
            exact ((hG3 k hk e).keep fun b hb => B1.out.block b (hG1 k b e hb).2).put4 (fun hb => by have := hG1 k _ e hb; omega) _ _
          · have e2 : k = us.length := by simp at hk'; omega
            subst e2
            simp only [List.getElem_concat_length, Nat.lt_irrefl, if_false]
            exact T1.out.put4 (fun hb => by have := hb.1; omega) _ _
      clear OS e2
      go_wp2_with fail
      go_roundw
      case rel => exact ⟨us ++ [vt k1 n1 s1 A1 m1 c1], by simp; omega, by simp, O3.out, by have := HZ.out; simp; omega, hu⟩
      case measure => simp [intOf]; omega
    · have e : us.length = ts.length := by omega
      have OE := OW.out
      rw [e, Nat.sub_self, List.replicate_zero, List.append_nil] at OE
      have HE := Lib.hid e
      have OB := Lib.hid OE
      clear OE OW e
      go_wp2_with fail
      go_ret
      obtain ⟨G, hG1, hG2, hG3⟩ := HU.out
      have he := HE.out
      refine ⟨_, _, rfl, Nat.le_refl _, by simp only [maxLen]; omega, ⟨us.flatMap f4, G, ⟨OB.out.rd, fun hn => ?_, fun i b hi hb => ?_, fun i j b hi hj => hG2 i j b (by omega) (by omega)⟩, fun k hk => ?_⟩, OB.out.2⟩
      · rcases OB.out.1.2 with ⟨h, _⟩ | ⟨g, cap, cur, h, hb, hg, _⟩
        · simp at h
        · injection h with h
          injection h with h
          injection h with h
          subst h
          exact ⟨_, 0, cur, _, rfl, ⟨Nat.le_refl _, hsz⟩, hg, fun i hi hb => by have := hG1 i _ (by omega) hb; omega⟩
      · have := hG1 i b (by omega) hb
        exact ⟨by omega, by omega⟩
      · have hk' : k < us.length := by omega
        rw [flat_chunk f4 4 f4_len us k hk']
        exact hG3 k hk hk'
set_option maxHeartbeats 400000 in
theorem laws_toTermO (t : Tm) : ToO t := by
  induction hN : nodes t using Nat.strongRecOn generalizing t with
  | ind N ih =>
    intro k n s A m c w ht htot
    obtain ⟨kids, rfl, rfl, hl, hc, hk, hn, hs, row⟩ := ht.inv
    have IH : Hid (∀ x ∈ kids, ToO x) := Lib.hid fun x hx => ih (nodes x) (by rw [← hN]; exact kid_lt hx) x rfl
    have RW := Lib.hid row
    have htk : totTs kids ≤ 1048576 := by rw [totT] at htot; omega
    have KK := Lib.hid hk
    have NN := Lib.hid hn
    have SS := Lib.hid hs
    clear ih hN ht row htot hk hn hs
    go_enter Tryd.func142, Tryd.ntmps142
    go_wp2_with fail
    refine (laws_toTermSO kids IH.out A c _ ?_ hl hc htk).mono ?_
    · exact RW.out.belowA (by repeat' (first | exact Below.refl _ _ | exact Nat.le_refl _ | (refine Below.alloc ?_ ?_ _) | (refine Below.setCell ?_ ?_ _) | (refine Below.drew ?_) | (refine below_drewN ?_ _) | assumption | (simp; done) | (simp; omega)))
    rintro e w1 ⟨A1, c1, rfl, hl1, hc1, row1, b1⟩
    have R1 : Hid (TmRowO w1 (fun b => w.heap.size + 3 ≤ b ∧ b < w1.heap.size) A1 kids) := Lib.hid (row1.sub fun b hb => ⟨by have := hb.1; simpa using this, hb.2⟩)
    have B1 := Lib.hid b1
    obtain ⟨hcell, hfree⟩ := old_cells b1
    have hsz := b1.size
    simp only [World.size_alloc] at hcell hfree hsz
    clear row1 b1
    go_wp2_with fail
    refine bodyPost_ret (v := .agg #[.int .i64 k, .int .i64 n, .string s, .slice A1 kids.length c1]) (by simp [results, Tryd.results142, go_sem, hcell]) rfl ⟨k, n, s, A1, _, c1, rfl, TmO.mk' KK.out NN.out SS.out hl1 hc1 ?_, ?_⟩
    · refine TmRowO.sub (F := fun b => w.heap.size + 3 ≤ b ∧ b < w1.heap.size) ?_ (fun b hb => ⟨by omega, by simp; omega⟩)
      exact ((((R1.out.set (by first | (simp; done) | (simp; omega)) _).set (by first | (simp; done) | (simp; omega)) _).set (by first | (simp; done) | (simp; omega)) _).set (by first | (simp; done) | (simp; omega)) _).set (by first | (simp; done) | (simp; omega)) _
    · have hb : Below w.heap.size w w1 := Below.trans (by repeat' (first | exact Below.refl _ _ | exact Nat.le_refl _ | (refine Below.alloc ?_ ?_ _) | (refine Below.setCell ?_ ?_ _) | (refine Below.drew ?_) | (refine below_drewN ?_ _) | assumption | (simp; done) | (simp; omega))) (B1.out.mono (by simp; omega))
      exact ((((hb.setCell (by simp; omega) _).setCell (by simp) _).setCell (by simp) _).setCell (by simp) _).setCell (by simp) _
end Go.Proofs.YtefcdpkficojgaaDoor
