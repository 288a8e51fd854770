/- Lemmas for the row. -/
import Derived.Test.YtadcebdhgocmhaaKo5
import Derived.Test.YtadcebdhgocmhaaKo9
import Derived.Test.YtadcebdhgocmhaaKo3
namespace Go.Proofs.Ytadcebdhgocmhaa
open Go.RowKit
set_option linter.unusedVariables false
inductive TmO (w : World) : (Nat → Prop) → List Value → Tm → Prop
  | mk (F : Nat → Prop) (k n : Int) (s : ByteArray) (A : Option Addr) (c : Nat) (cs : List Value) (kids : List Tm) (G : Nat → Nat → Prop) (hk : i64in k) (hn : i64in n) (hs : s.size ≤ maxLen) (hl : kids.length ≤ c) (hc : c ≤ maxLen) (row : RowO w F 4 A kids.length cs G)
      (hx : ∀ i (h : i < kids.length), TmO w (G i) ((cs.drop (i * 4)).take 4) kids[i]) : TmO w F [.int .i64 k, .int .i64 n, .string s, .slice A kids.length c] (.mk k n s kids)
def TmRowO (w : World) (F : Nat → Prop) (A : Option Addr) (ts : List Tm) : Prop :=
  ∃ cs G, RowO w F 4 A ts.length cs G ∧ ∀ i (h : i < ts.length), TmO w (G i) ((cs.drop (i * 4)).take 4) ts[i]
theorem TmO.inv {F : Nat → Prop} {w : World} {k n : Int} {s : ByteArray} {A : Option Addr} {m c : Nat} {t : Tm} (h : TmO w F [.int .i64 k, .int .i64 n, .string s, .slice A m c] t) :
    ∃ kids, t = .mk k n s kids ∧ m = kids.length ∧ kids.length ≤ c ∧ c ≤ maxLen ∧ i64in k ∧ i64in n ∧ s.size ≤ maxLen ∧ TmRowO w F A kids := by
  cases h with
  | mk _ _ _ _ _ _ cs kids G hk hn hs hl hc row hx => exact ⟨kids, rfl, rfl, hl, hc, hk, hn, hs, cs, G, row, hx⟩
theorem TmO.mk' {F : Nat → Prop} {w : World} {k n : Int} {s : ByteArray} {A : Option Addr} {c : Nat} {kids : List Tm} (hk : i64in k) (hn : i64in n) (hs : s.size ≤ maxLen) (hl : kids.length ≤ c) (hc : c ≤ maxLen) (row : TmRowO w F A kids) :
    TmO w F [.int .i64 k, .int .i64 n, .string s, .slice A kids.length c] (.mk k n s kids) := by
  obtain ⟨cs, G, r, hx⟩ := row
  exact .mk F k n s A c cs kids G hk hn hs hl hc r hx
theorem TmO.form {F : Nat → Prop} {w : World} {cs : List Value} {t : Tm} (h : TmO w F cs t) : ∃ k n s A m c, cs = [.int .i64 k, .int .i64 n, .string s, .slice A m c] := by
  cases h with
  | mk _ k n s A c cs kids G hk hn hs hl hc row hx => exact ⟨k, n, s, A, _, c, rfl⟩
theorem TmO.sub {F F' : Nat → Prop} {w : World} {cs : List Value} {t : Tm} (h : TmO w F cs t) (hF : ∀ b, F b → F' b) : TmO w F' cs t := by
  cases h with
  | mk _ k n s A c cs kids G hk hn hs hl hc row hx => exact .mk F' k n s A c cs kids G hk hn hs hl hc (row.sub hF) hx
theorem TmRowO.sub {F F' : Nat → Prop} {w : World} {A : Option Addr} {ts : List Tm} (h : TmRowO w F A ts) (hF : ∀ b, F b → F' b) : TmRowO w F' A ts := by
  obtain ⟨cs, G, r, hx⟩ := h
  exact ⟨cs, G, r.sub hF, hx⟩
theorem TmO.keep {F : Nat → Prop} {w w' : World} {cs : List Value} {t : Tm} (h : TmO w F cs t) (hk : ∀ b, F b → w'.heap[b]? = w.heap[b]?) : TmO w' F cs t := by
  induction h with
  | mk F k n s A c cs kids G h1 h2 h3 hl hc row hx ih => exact .mk F k n s A c cs kids G h1 h2 h3 hl hc (row.keep hk) fun i hi => ih i hi fun b hb => hk b (row.2.2.1 i b hi hb)
theorem TmRowO.keep {F : Nat → Prop} {w w' : World} {A : Option Addr} {ts : List Tm} (h : TmRowO w F A ts) (hk : ∀ b, F b → w'.heap[b]? = w.heap[b]?) : TmRowO w' F A ts := by
  obtain ⟨cs, G, row, hx⟩ := h
  exact ⟨cs, G, row.keep hk, fun i hi => (hx i hi).keep fun b hb => hk b (row.2.2.1 i b hi hb)⟩
theorem TmO.is {F : Nat → Prop} {w : World} {cs : List Value} {t : Tm} (h : TmO w F cs t) : TmIs (Pl w F) w cs t := by
  induction h with
  | mk F k n s A c cs kids G h1 h2 h3 hl hc row hx ih =>
    refine .mk k n s A c cs kids h1 h2 h3 hl hc row.1 (fun b off e hn => ?_) fun i hi => (ih i hi).keep (fun _ _ _ => rfl) (fun b _ ⟨q1, q2⟩ => ⟨row.2.2.1 i b hi q1, q2⟩)
    subst e
    exact (row.lt hn).2
theorem TmRowO.is {F : Nat → Prop} {w : World} {A : Option Addr} {ts : List Tm} (h : TmRowO w F A ts) : TmRow (Pl w F) w A ts := by
  obtain ⟨cs, G, row, hx⟩ := h
  refine ⟨cs, row.1, fun b off e hn => ?_, fun i hi => (hx i hi).is.keep (fun _ _ _ => rfl) (fun b _ ⟨q1, q2⟩ => ⟨row.2.2.1 i b hi q1, q2⟩)⟩
  subst e
  exact (row.lt hn).2
theorem TmO.any {F : Nat → Prop} {w : World} {cs : List Value} {t : Tm} (h : TmO w F cs t) : TmIs AnyB w cs t := h.is.any
theorem TmRowO.any {F : Nat → Prop} {w : World} {A : Option Addr} {ts : List Tm} (h : TmRowO w F A ts) : TmRow AnyB w A ts := h.is.any
theorem TmO.fr {w w' W : World} {cs : List Value} {t : Tm} (h : TmO W (Made w w') cs t) : TmIs (Fr w.heap.size W) W cs t := h.is.keep (fun _ _ _ => rfl) (fun b _ ⟨q1, q2⟩ => ⟨q1.1, q2⟩)
theorem TmRowO.fr {w w' W : World} {A : Option Addr} {ts : List Tm} (h : TmRowO W (Made w w') A ts) : TmRow (Fr w.heap.size W) W A ts := h.is.keep (fun _ _ _ => rfl) (fun b _ ⟨q1, q2⟩ => ⟨q1.1, q2⟩)
theorem TmO.belowO {w1 w2 : World} {F : Nat → Prop} {cs : List Value} {t : Tm} (h : TmO w1 F cs t) (hF : ∀ b, F b → b < w1.heap.size) (hb : Below w1.heap.size w1 w2) : TmO w2 F cs t := h.keep fun b hF' => hb.block b (hF b hF')
theorem TmRowO.belowO {w1 w2 : World} {F : Nat → Prop} {A : Option Addr} {ts : List Tm} (h : TmRowO w1 F A ts) (hF : ∀ b, F b → b < w1.heap.size) (hb : Below w1.heap.size w1 w2) : TmRowO w2 F A ts := h.keep fun b hF' => hb.block b (hF b hF')
theorem TmO.set {w : World} {F : Nat → Prop} {cs : List Value} {t : Tm} (h : TmO w F cs t) {p : Addr} (hp : ¬ F p.block) (u : Value) : TmO (w.setCell p u) F cs t := h.keep fun b hb => Below.heap_setCell w p u b (fun e => hp (by rw [← e]; exact hb))
theorem TmRowO.set {w : World} {F : Nat → Prop} {A : Option Addr} {ts : List Tm} (h : TmRowO w F A ts) {p : Addr} (hp : ¬ F p.block) (u : Value) : TmRowO (w.setCell p u) F A ts := h.keep fun b hb => Below.heap_setCell w p u b (fun e => hp (by rw [← e]; exact hb))
theorem TmO.put4 {w : World} {F : Nat → Prop} {cs : List Value} {t : Tm} (h : TmO w F cs t) {g : Nat} (hg : ¬ F g) (o : Nat) (x : V4) : TmO (put4 w g o x) F cs t :=
  (((h.set (p := ⟨g, o, none⟩) hg _).set (p := ⟨g, o + 1, none⟩) hg _).set (p := ⟨g, o + 2, none⟩) hg _).set (p := ⟨g, o + 3, none⟩) hg _
def RetTO (w : World) (t : Tm) (e : Ending) (w' : World) : Prop := ∃ k n s A m c, e = .returned (.agg #[.int .i64 k, .int .i64 n, .string s, .slice A m c]) ∧ TmO w' (Made w w') [.int .i64 k, .int .i64 n, .string s, .slice A m c] t ∧ Below w.heap.size w w'
def RetTsO (w : World) (ts : List Tm) (e : Ending) (w' : World) : Prop := ∃ A c, e = .returned (.slice A ts.length c) ∧ ts.length ≤ c ∧ c ≤ maxLen ∧ TmRowO w' (Made w w') A ts ∧ Below w.heap.size w w'
abbrev ToO (t : Tm) : Prop := ∀ (k n : Int) (s : ByteArray) (A : Option Addr) (m c : Nat) (w : World), TmIs AnyB w [.int .i64 k, .int .i64 n, .string s, .slice A m c] t → totT t ≤ 1048576 →
  Calls Try.prog 123 #[.agg #[.int .i64 k, .int .i64 n, .string s, .slice A m c]] w (RetTO w t)
set_option maxHeartbeats 400000 in
theorem laws_toTermSO (ts : List Tm) (ih : ∀ t ∈ ts, ToO t) (A : Option Addr) (c : Nat) (w : World) (row : TmRow AnyB w A ts) (hl : ts.length ≤ c) (hc : c ≤ maxLen) (ht : totTs ts ≤ 1048576) :
    Calls Try.prog 125 #[.slice A ts.length c] w (RetTsO w ts) := by
  unfold maxLen at hc
  have IH := Lib.hid ih
  have RW := Lib.hid row
  have hlen := totTs_len ts
  have HT := Lib.hid (fun t (hm : t ∈ ts) => show totT t ≤ 1048576 from by have := totTs_le hm; omega)
  clear ih row
  go_enter Try.func125, Try.ntmps125
  go_wp2_with (at_make; refine wpList_mkN rfl _ _ 32 rfl tmT f4 f4_len z4 _ tmZ rfl (Below.refl _ _) _ _ _ _ ts.length rfl rfl rfl rfl (by omega) (by simp only [maxLen]; omega) ?_; intro w1 own1 hlt1 hg1)
  go_loopw [4] (fun i wr => ∃ us : List V4, us.length ≤ ts.length ∧ i = .int .i64 (us.length : Int) ∧ Own w wr 34 4 (.slice (some ⟨w.heap.size, 0, none⟩) ts.length ts.length) ts.length ((us ++ List.replicate (ts.length - us.length) z4).flatMap f4) ∧ w.heap.size < wr.heap.size ∧ Hid (∃ G : Nat → Nat → Prop, (∀ k b, k < us.length → G k b → w.heap.size < b ∧ b < wr.heap.size) ∧ (∀ i j b, i < us.length → j < us.length → i ≠ j → G i b → G j b → False) ∧ ∀ k (hk : k < ts.length) (hk' : k < us.length), TmO wr (G k) (f4 us[k]) ts[k])) (fun i _ => ts.length - (intOf i).toNat)
  case atStart => exact ⟨[], Nat.zero_le _, rfl, by simpa using own1, hlt1, Lib.hid ⟨fun _ _ => False, fun k b hk => absurd hk (by simp), fun i j b hk => absurd hk (by simp), fun k _ hk => absurd hk (by simp)⟩⟩
  case round =>
    obtain ⟨us, hk, rfl, own, hsz, HU⟩ := hrel
    have OW := Lib.hid own
    clear own own1 hlt1 hg1 hlen
    by_cases hlt : us.length < ts.length
    · obtain ⟨b, off, kd, nn, s, A', m', c', rfl, _, d0, d1, d2, d3, hterm⟩ := rd_term (RW.out.belowA OW.out.2) hlt
      have HTm := Lib.hid hterm
      clear hterm
      have h0k : (0 : Int) ≤ (us.length : Int) := by omega
      go_wp2_with fail
      refine (IH.out _ (List.getElem_mem hlt) kd nn s A' m' c' _ HTm.out (HT.out _ (List.getElem_mem hlt))).mono ?_
      rintro e w1 ⟨k1, n1, s1, A1, m1, c1, rfl, ht1, b1⟩
      have T1 := Lib.hid ht1
      have B1 := Lib.hid b1
      clear ht1 b1
      have O2 := Lib.hid (OW.out.below B1.out)
      have hp : us.length < (us ++ List.replicate (ts.length - us.length) z4).length := fill_get hlt
      obtain ⟨x0, q0⟩ : ∃ x, w1.cell? ⟨w.heap.size, us.length * 4, none⟩ = some x := ⟨_, O2.out.cellAt (j := us.length * 4) (by omega) ((flat_get f4 4 f4_len _ us.length 0 hp (by omega)).trans rfl)⟩
      obtain ⟨x1, q1⟩ : ∃ x, w1.cell? ⟨w.heap.size, us.length * 4 + 1, none⟩ = some x := ⟨_, O2.out.cellAt (j := us.length * 4 + 1) (by omega) ((flat_get f4 4 f4_len _ us.length 1 hp (by omega)).trans rfl)⟩
      obtain ⟨x2, q2⟩ : ∃ x, w1.cell? ⟨w.heap.size, us.length * 4 + 2, none⟩ = some x := ⟨_, O2.out.cellAt (j := us.length * 4 + 2) (by omega) ((flat_get f4 4 f4_len _ us.length 2 hp (by omega)).trans rfl)⟩
      obtain ⟨x3, q3⟩ : ∃ x, w1.cell? ⟨w.heap.size, us.length * 4 + 3, none⟩ = some x := ⟨_, O2.out.cellAt (j := us.length * 4 + 3) (by omega) ((flat_get f4 4 f4_len _ us.length 3 hp (by omega)).trans rfl)⟩
      have r0 := O2.out.freeAt (us.length * 4)
      have r1 := O2.out.freeAt (us.length * 4 + 1)
      have r2 := O2.out.freeAt (us.length * 4 + 2)
      have r3 := O2.out.freeAt (us.length * 4 + 3)
      have e2 := flat_sets f4 4 f4_len (us ++ List.replicate (ts.length - us.length) z4) us.length hp (vt k1 n1 s1 A1 m1 c1)
      rw [fill_set hlt] at e2
      have OS := O2.out.put4 (us.length * 4) (vt k1 n1 s1 A1 m1 c1)
      rw [e2] at OS
      have O3 := Lib.hid OS
      have HZ := Lib.hid (put4_size w1 w.heap.size (us.length * 4) (vt k1 n1 s1 A1 m1 c1))
      have hs1 := B1.out.size
      have hu : Hid (∃ G : Nat → Nat → Prop, (∀ k b, k < (us ++ [vt k1 n1 s1 A1 m1 c1]).length → G k b → w.heap.size < b ∧ b < (put4 w1 w.heap.size (us.length * 4) (vt k1 n1 s1 A1 m1 c1)).heap.size) ∧ (∀ i j b, i < (us ++ [vt k1 n1 s1 A1 m1 c1]).length → j < (us ++ [vt k1 n1 s1 A1 m1 c1]).length → i ≠ j → G i b → G j b → False) ∧ ∀ k (hk : k < ts.length) (hk' : k < (us ++ [vt k1 n1 s1 A1 m1 c1]).length), TmO (put4 w1 w.heap.size (us.length * 4) (vt k1 n1 s1 A1 m1 c1)) (G k) (f4 (us ++ [vt k1 n1 s1 A1 m1 c1])[k]) ts[k]) := by
        obtain ⟨G, hG1, hG2, hG3⟩ := HU.out
        have hz := HZ.out
        refine Lib.hid ⟨fun k b => if k < us.length then G k b else (wr.heap.size ≤ b ∧ b < w1.heap.size), fun k b hk hb => ?_, fun i j b hi hj hne h1 h2 => ?_, fun k hk hk' => ?_⟩
        · by_cases e : k < us.length
          · simp only [e, if_true] at hb; have := hG1 k b e hb; omega
          · simp only [e, if_false] at hb; omega
        · simp only [List.length_append, List.length_cons, List.length_nil] at hi hj
          by_cases e : i < us.length
          · by_cases e' : j < us.length
            · simp only [e, e', if_true] at h1 h2; exact hG2 i j b e e' hne h1 h2
            · simp only [e, e', if_true, if_false] at h1 h2; have := hG1 i b e h1; omega
          · by_cases e' : j < us.length
            · simp only [e, e', if_true, if_false] at h1 h2; have := hG1 j b e' h2; omega
            · omega
        · by_cases e : k < us.length
          · rw [List.getElem_append_left e]
            simp only [e, if_true]
            exact ((hG3 k hk e).keep fun b hb => B1.out.block b (hG1 k b e hb).2).put4 (fun hb => by have := hG1 k _ e hb; omega) _ _
          · have e2 : k = us.length := by simp at hk'; omega
            subst e2
            simp only [List.getElem_concat_length, Nat.lt_irrefl, if_false]
            exact T1.out.put4 (fun hb => by have := hb.1; omega) _ _
      clear OS e2
      go_wp2_with fail
      go_roundw
      case rel => exact ⟨us ++ [vt k1 n1 s1 A1 m1 c1], by simp; omega, by simp, O3.out, by have := HZ.out; simp; omega, hu⟩
      case measure => simp [intOf]; omega
    · have e : us.length = ts.length := by omega
      have OE := OW.out
      rw [e, Nat.sub_self, List.replicate_zero, List.append_nil] at OE
      have HE := Lib.hid e
      have OB := Lib.hid OE
      clear OE OW e
      go_wp2_with fail
      go_ret
      obtain ⟨G, hG1, hG2, hG3⟩ := HU.out
      have he := HE.out
      refine ⟨_, _, rfl, Nat.le_refl _, by simp only [maxLen]; omega, ⟨us.flatMap f4, G, ⟨OB.out.rd, fun hn => ?_, fun i b hi hb => ?_, fun i j b hi hj => hG2 i j b (by omega) (by omega)⟩, fun k hk => ?_⟩, OB.out.2⟩
      · rcases OB.out.1.2 with ⟨h, _⟩ | ⟨g, cap, cur, h, hb, hg, _⟩
        · simp at h
        · injection h with h
          injection h with h
          injection h with h
          subst h
          exact ⟨_, 0, cur, _, rfl, ⟨Nat.le_refl _, hsz⟩, hg, fun i hi hb => by have := hG1 i _ (by omega) hb; omega⟩
      · have := hG1 i b (by omega) hb
        exact ⟨by omega, by omega⟩
      · have hk' : k < us.length := by omega
        rw [flat_chunk f4 4 f4_len us k hk']
        exact hG3 k hk hk'
set_option maxHeartbeats 400000 in
theorem laws_toTermO (t : Tm) : ToO t := by
  induction hN : nodes t using Nat.strongRecOn generalizing t with
  | ind N ih =>
    intro k n s A m c w ht htot
    obtain ⟨kids, rfl, rfl, hl, hc, hk, hn, hs, row⟩ := ht.inv
    have IH : Hid (∀ x ∈ kids, ToO x) := Lib.hid fun x hx => ih (nodes x) (by rw [← hN]; exact kid_lt hx) x rfl
    have RW := Lib.hid row
    have htk : totTs kids ≤ 1048576 := by rw [totT] at htot; omega
    have KK := Lib.hid hk
    have NN := Lib.hid hn
    have SS := Lib.hid hs
    clear ih hN ht row htot hk hn hs
    go_enter Try.func123, Try.ntmps123
    go_wp2_with fail
    refine (laws_toTermSO kids IH.out A c _ ?_ hl hc htk).mono ?_
    · exact RW.out.belowA (by repeat' first|exact .refl _ _|exact Nat.le_refl _|refine .alloc ?_ ?_ _|refine .setCell ?_ ?_ _|refine .drew ?_|refine below_drewN ?_ _|assumption|(simp;done)|(simp;omega))
    rintro e w1 ⟨A1, c1, rfl, hl1, hc1, row1, b1⟩
    have R1 : Hid (TmRowO w1 (fun b => w.heap.size + 3 ≤ b ∧ b < w1.heap.size) A1 kids) := Lib.hid (row1.sub fun b hb => ⟨by have := hb.1; simpa using this, hb.2⟩)
    have B1 := Lib.hid b1
    obtain ⟨hcell, hfree⟩ := old_cells b1
    have hsz := b1.size
    simp only [World.size_alloc] at hcell hfree hsz
    clear row1 b1
    go_wp2_with fail
    refine bodyPost_ret (v := .agg #[.int .i64 k, .int .i64 n, .string s, .slice A1 kids.length c1]) (by simp [results, Try.results123, go_sem, hcell]) rfl ⟨k, n, s, A1, _, c1, rfl, TmO.mk' KK.out NN.out SS.out hl1 hc1 ?_, ?_⟩
    · refine TmRowO.sub (F := fun b => w.heap.size + 3 ≤ b ∧ b < w1.heap.size) ?_ (fun b hb => ⟨by omega, by simp; omega⟩)
      exact ((((R1.out.set (by first | (simp; done) | (simp; omega)) _).set (by first | (simp; done) | (simp; omega)) _).set (by first | (simp; done) | (simp; omega)) _).set (by first | (simp; done) | (simp; omega)) _).set (by first | (simp; done) | (simp; omega)) _
    · have hb : Below w.heap.size w w1 := Below.trans (by repeat' first|exact .refl _ _|exact Nat.le_refl _|refine .alloc ?_ ?_ _|refine .setCell ?_ ?_ _|refine .drew ?_|refine below_drewN ?_ _|assumption|(simp;done)|(simp;omega)) (B1.out.mono (by simp; omega))
      exact ((((hb.setCell (by simp; omega) _).setCell (by simp) _).setCell (by simp) _).setCell (by simp) _).setCell (by simp) _
mutual
def mkT (k : Nat) : Tm → Tm
  | .mk _ _ _ kids => .mk (k : Int) ((k + 1 : Nat) : Int) (markT (k + 2)) (mkTs (k + 3) kids)
def mkTs (k : Nat) : List Tm → List Tm
  | [] => []
  | t :: r => mkT k t :: mkTs (k + 3 * nodes t) r
end
theorem mkTs_length (k : Nat) (l : List Tm) : (mkTs k l).length = l.length := by
  induction l generalizing k with
  | nil => simp [mkTs]
  | cons t r ih => simp [mkTs, ih]
theorem nodess_append (l r : List Tm) : nodess (l ++ r) = nodess l + nodess r := by
  induction l with
  | nil => simp [nodess]
  | cons y t ih => rw [List.cons_append, nodess, nodess, ih]; omega
theorem mkTs_append (k : Nat) (l r : List Tm) : mkTs k (l ++ r) = mkTs k l ++ mkTs (k + 3 * nodess l) r := by
  induction l generalizing k with
  | nil => simp [mkTs, nodess]
  | cons y t ih => rw [List.cons_append, mkTs, mkTs, ih, nodess, List.cons_append]; congr 3; omega
theorem nodess_take (l : List Tm) (i : Nat) (h : i < l.length) : nodess (l.take (i + 1)) = nodess (l.take i) + nodes l[i] := by
  have e : l.take (i + 1) = l.take i ++ [l[i]] := List.take_succ_eq_append_getElem h
  rw [e, nodess_append]; simp [nodess]
theorem nodess_take_le (l : List Tm) (i : Nat) : nodess (l.take i) ≤ nodess l := by
  have e : nodess l = nodess (l.take i) + nodess (l.drop i) := by rw [← nodess_append, List.take_append_drop]
  omega
mutual
theorem nodes_tot : (t : Tm) → nodes t ≤ 1 + totT t
  | .mk k n s kids => by rw [nodes, totT]; have := nodess_tot kids; omega
theorem nodess_tot : (l : List Tm) → nodess l ≤ totTs l
  | [] => by simp [nodess, totTs]
  | t :: r => by rw [nodess, totTs]; have := nodes_tot t; have := nodess_tot r; omega
end
def mixT (k : Nat) (l : List Tm) (i : Nat) : List Tm := mkTs k (l.take i) ++ l.drop i
theorem mixT_zero (k : Nat) (l : List Tm) : mixT k l 0 = l := by simp [mixT, mkTs]
theorem mixT_all (k : Nat) (l : List Tm) {i : Nat} (h : l.length ≤ i) : mixT k l i = mkTs k l := by simp [mixT, List.take_of_length_le h, List.drop_of_length_le h]
theorem mixT_length (k : Nat) (l : List Tm) {i : Nat} (h : i ≤ l.length) : (mixT k l i).length = l.length := by simp [mixT, mkTs_length]; omega
theorem mixT_get (k : Nat) (l : List Tm) {i : Nat} (h : i < l.length) (h' : i < (mixT k l i).length) : (mixT k l i)[i] = l[i] := by
  have hl : (mkTs k (l.take i)).length = i := by rw [mkTs_length, List.length_take]; omega
  have e : (mixT k l i)[i]? = some l[i] := by unfold mixT; rw [List.getElem?_append_right (by omega), hl, Nat.sub_self, List.getElem?_drop]; simp [h]
  rw [List.getElem?_eq_getElem h'] at e
  injection e
theorem mixT_set (k : Nat) (l : List Tm) {i : Nat} (h : i < l.length) : (mixT k l i).set i (mkT (k + 3 * nodess (l.take i)) l[i]) = mixT k l (i + 1) := by
  have hl : (mkTs k (l.take i)).length = i := by rw [mkTs_length, List.length_take]; omega
  have e : l.take (i + 1) = l.take i ++ [l[i]] := List.take_succ_eq_append_getElem h
  unfold mixT
  rw [e, mkTs_append, List.set_append_right _ _ (by omega), hl, Nat.sub_self, List.drop_eq_getElem_cons h, List.set_cons_zero, List.append_assoc]
  simp [mkTs]
theorem TmO.keepP : ∀ w w' G cells x, TmO w G cells x → (∀ b, G b → w'.heap[b]? = w.heap[b]?) → TmO w' G cells x := fun _ _ _ _ _ h hk => h.keep hk
theorem markT_size (k : Nat) : (markT k).size = 1 + (decL k).length := by simp [markT, ByteArray.size]; omega
theorem decL_len (k : Nat) : (decL k).length ≤ k := by
  induction k using Nat.strongRecOn with
  | ind k ih =>
    rcases Nat.eq_zero_or_pos k with rfl | h
    · rw [decL_zero]; simp
    · rw [decL_pos h, List.length_append]
      have := ih (k / 10) (by omega)
      simp
      omega
theorem markT_le {k : Nat} (h : k ≤ 100000000) : (markT k).size ≤ maxLen := by
  rw [markT_size]; have := decL_len k; unfold maxLen; omega
theorem i64_nat {k : Nat} (h : k ≤ 100000000) : i64in (k : Int) := by unfold i64in; omega
theorem mkT_mk (k : Nat) (a b : Int) (s : ByteArray) (kids : List Tm) : mkT k (.mk a b s kids) = .mk (k : Int) ((k + 1 : Nat) : Int) (markT (k + 2)) (mkTs (k + 3) kids) := by rw [mkT]
abbrev MkC (ts : List Tm) : Prop := ∀ (k : Nat) (A : Option Addr) (c : Nat) (w : World) (F : Nat → Prop), TmRowO w F A ts → (∀ b, F b → b < w.heap.size) → ts.length ≤ c → c ≤ maxLen → 0 < k → k + 3 * nodess ts ≤ 100000000 →
  Calls Try.prog 91 #[.slice A ts.length c, .int .i64 (k : Int)] w fun e w' => e = .returned (.int .i64 ((k + 3 * nodess ts : Nat) : Int)) ∧ TmRowO w' F A (mkTs k ts) ∧ Keep (fun b => ¬ F b) w w'
set_option maxHeartbeats 1000000 in
set_option maxRecDepth 100000 in
theorem laws_markTermS_at (ts : List Tm) (ih : ∀ t ∈ ts, ∀ k n s kids, t = .mk k n s kids → MkC kids) : MkC ts := by
  intro k A c w F row hF hl hc h0 h1
  unfold maxLen at hc
  have IH := Lib.hid ih
  have RW := Lib.hid row
  have HF := Lib.hid hF
  clear ih row hF
  go_enter Try.func91, Try.ntmps91
  go_wp2_with fail
  go_loopw [1, 5] (fun kk i wr => ∃ j : Nat, j ≤ ts.length ∧ i = .int .i64 j ∧ kk = .int .i64 ((k + 3 * nodess (ts.take j) : Nat) : Int) ∧ Hid (TmRowO wr F A (mixT k ts j) ∧ Keep (fun b => ¬ F b) w wr)) (fun _ i _ => ts.length - (intOf i).toNat)
  case atStart => exact ⟨0, Nat.zero_le _, rfl, by simp [nodess], Lib.hid ⟨by rw [mixT_zero]; exact RW.out, Keep.refl _ _⟩⟩
  case round =>
    obtain ⟨j, hj, rfl, rfl, HR⟩ := hrel
    by_cases hlt : j < ts.length
    · obtain ⟨hrow, hkeep⟩ := HR.out
      have hlm := mixT_length k ts hj
      have hjm : j < (mixT k ts j).length := by omega
      obtain ⟨b, off, G, cells, rfl, hcl, hcell, hP, hFb, hpl, hGF, hback⟩ := RowOf.focus (P := TmO) TmO.keepP hrow hjm
      rw [mixT_get k ts hlt hjm] at hP
      obtain ⟨kd, nn, s, A', m, c', rfl⟩ := hP.form
      obtain ⟨kids, heq, rfl, hl', hc', _, _, hs', hrow'⟩ := hP.inv
      have d0 := hcell 0 _ rfl
      have d1 := hcell 1 _ rfl
      have d2 := hcell 2 _ rfl
      have d3 := hcell 3 _ rfl
      simp only [Nat.add_zero] at d0
      have hlb := cell_lt d0
      have f0 := plain_free hpl (off + j * 4)
      have f1 := plain_free hpl (off + j * 4 + 1)
      have f2 := plain_free hpl (off + j * 4 + 2)
      have hnt := nodess_take ts j hlt
      have hnl := nodess_take_le ts (j + 1)
      have hnk : nodes ts[j] = 1 + nodess kids := by rw [heq, nodes]
      have VK := Lib.hid (IH.out ts[j] (List.getElem_mem hlt) _ _ _ kids heq)
      have HQ := Lib.hid heq
      have KP := Lib.hid hkeep
      have HPL := Lib.hid hpl
      have HBACK := Lib.hid hback
      have HGF := Lib.hid hGF
      have HR' := Lib.hid hrow'
      have HFW : Hid (∀ y, F y → y < wr.heap.size) := Lib.hid fun y hy => Nat.lt_of_lt_of_le (HF.out y hy) hkeep.size
      have HFB := Lib.hid hFb
      have HN : Hid (nodess (ts.take (j + 1)) = nodess (ts.take j) + (1 + nodess kids)) := Lib.hid (by omega)
      have hbd : k + 3 * nodess (ts.take j) + 3 + 3 * nodess kids ≤ 100000000 := by omega
      have h0k : (0 : Int) ≤ (j : Int) := by omega
      generalize hK : k + 3 * nodess (ts.take j) = K at *
      have HK := Lib.hid hK
      have hK0 : 0 < K := by omega
      clear hK hrow hkeep hback hGF hrow' hcell hcl hP heq hnt hnl hnk hlm hpl hFb HR
      go_wp2_with fail
      refine (laws_markText (K + 2) _ (by omega) (by omega)).mono ?_
      rintro e w1 ⟨rfl, b1⟩
      have B1 := Lib.hid b1
      obtain ⟨hcell, hfree⟩ := old_cells b1
      simp only [World.size_setCell] at hcell hfree
      have e2 : w1.cell? ⟨b, off + j * 4 + 2, none⟩ = some (.string s) := by rw [hcell _ _ hlb, World.cell?_setCell_other _ _ _ _ (by simp), World.cell?_setCell_other _ _ _ _ (by simp)]; exact d2
      have e3 : w1.cell? ⟨b, off + j * 4 + 3, none⟩ = some (.slice A' kids.length c') := by rw [hcell _ _ hlb, World.cell?_setCell_other _ _ _ _ (by simp), World.cell?_setCell_other _ _ _ _ (by simp)]; exact d3
      have hp1 := plain_below (plain_set (plain_set HPL.out b (off + j * 4) (.int .i64 (K : Int))) b (off + j * 4 + 1) (.int .i64 ((K : Int) + 1))) B1.out
      have g2 := plain_free hp1 (off + j * 4 + 2)
      have HP1 := Lib.hid hp1
      have hz1 := b1.size
      simp only [World.size_setCell] at hz1
      have v0 : w1.cell? ⟨b, off + j * 4, none⟩ = some (.int .i64 (K : Int)) := by rw [hcell _ _ hlb, World.cell?_setCell_other _ _ _ _ (by simp)]; exact World.cell?_setCell_same _ _ _ d0
      have v1 : w1.cell? ⟨b, off + j * 4 + 1, none⟩ = some (.int .i64 ((K : Int) + 1)) := by rw [hcell _ _ hlb]; exact World.cell?_setCell_same _ _ _ (by rw [World.cell?_setCell_other _ _ _ _ (by simp)]; exact d1)
      have HO : Hid (∀ o, o < off + j * 4 ∨ off + j * 4 + 4 ≤ o → w1.cell? ⟨b, o, none⟩ = wr.cell? ⟨b, o, none⟩) := Lib.hid fun o ho => by
        rw [hcell _ _ hlb, World.cell?_setCell_other _ _ _ _ (fun e => by injection e with _ e; omega), World.cell?_setCell_other _ _ _ _ (fun e => by injection e with _ e; omega)]
      have HY : Hid (∀ y, y < wr.heap.size → y ≠ b → w1.heap[y]? = wr.heap[y]?) := Lib.hid fun y hy hne => by
        rw [B1.out.block y (by simpa using hy), Below.heap_setCell _ _ _ _ hne, Below.heap_setCell _ _ _ _ hne]
      have V := Lib.hid (And.intro v0 v1)
      have E := Lib.hid (And.intro e2 e3)
      have R2 : Hid (TmRowO (w1.setCell ⟨b, off + j * 4 + 2, none⟩ (.string (markT (K + 2)))) G A' kids) := Lib.hid (TmRowO.set (p := ⟨b, off + j * 4 + 2, none⟩) (HR'.out.keep fun y hy => HY.out y (HFW.out y (HGF.out y hy).1) (HGF.out y hy).2) (fun h => (HGF.out b h).2 rfl) _)
      clear b1 hcell hfree v0 v1 hp1 d0 d1 d2 d3 f0 f1 f2
      go_wp2_with fail
      refine (VK.out (K + 3) A' c' _ G R2.out (fun y hy => by have := HFW.out y (HGF.out y hy).1; simp; omega) hl' hc' (by omega) (by omega)).mono ?_
      rintro e w2 ⟨rfl, r2, k2⟩
      have hGb : ¬ G b := fun h => (HGF.out b h).2 rfl
      have hlb1 : b < w1.heap.size := by omega
      have blk : w2.heap[b]? = (w1.setCell ⟨b, off + j * 4 + 2, none⟩ (.string (markT (K + 2)))).heap[b]? := k2.block b (by simpa using hlb1) hGb
      have hcb : ∀ o, w2.cell? ⟨b, o, none⟩ = (w1.setCell ⟨b, off + j * 4 + 2, none⟩ (.string (markT (K + 2)))).cell? ⟨b, o, none⟩ := fun o => World.cell?_of_block (a := ⟨b, o, none⟩) blk
      have RN : Hid (TmRowO w2 F (some ⟨b, off, none⟩) (mixT k ts (j + 1))) := by
        rw [← mixT_set k ts hlt]
        refine Lib.hid (HBACK.out w2 [.int .i64 (K : Int), .int .i64 ((K : Int) + 1), .string (markT (K + 2)), .slice A' kids.length c'] _ rfl ?_ ?_ ?_ ?_ ?_)
        · obtain ⟨cur, ty, hb⟩ := plain_set HP1.out b (off + j * 4 + 2) (.string (markT (K + 2)))
          exact ⟨cur, ty, blk.trans hb⟩
        · intro r u hu
          rw [hcb]
          match r, hu with
          | 0, hu => injection hu with hu; subst hu; rw [Nat.add_zero, World.cell?_setCell_other _ _ _ _ (by simp)]; exact V.out.1
          | 1, hu => injection hu with hu; subst hu; rw [World.cell?_setCell_other _ _ _ _ (by simp)]; exact V.out.2
          | 2, hu => injection hu with hu; subst hu; exact World.cell?_setCell_same _ _ _ E.out.1
          | 3, hu => injection hu with hu; subst hu; rw [World.cell?_setCell_other _ _ _ _ (by simp)]; exact E.out.2
          | r + 4, hu => simp at hu
        · intro o ho
          rw [hcb, World.cell?_setCell_other _ _ _ _ (fun e => by injection e with _ e; omega)]
          exact HO.out o ho
        · intro y hy hne hG
          have hyl := HFW.out y hy
          rw [k2.block y (by simp; omega) hG, Below.heap_setCell _ _ _ _ hne]
          exact HY.out y hyl hne
        · rw [HK.out, HQ.out, mkT_mk]
          have := TmO.mk' (F := G) (w := w2) (k := (K : Int)) (n := ((K + 1 : Nat) : Int)) (s := markT (K + 2)) (A := A') (c := c') (kids := mkTs (K + 3) kids) (i64_nat (by omega)) (i64_nat (by omega)) (markT_le (by omega)) (by rw [mkTs_length]; exact hl') hc' r2
          rw [mkTs_length] at this
          exact this
      have KN : Hid (Keep (fun b => ¬ F b) w w2) := by
        have q0 : Keep (fun y => ¬ F y) wr ((wr.setCell ⟨b, off + j * 4, none⟩ (.int .i64 (K : Int))).setCell ⟨b, off + j * 4 + 1, none⟩ (.int .i64 ((K : Int) + 1))) := ((Keep.refl _ _).setCell (p := ⟨b, off + j * 4, none⟩) (fun h => h HFB.out) _).setCell (p := ⟨b, off + j * 4 + 1, none⟩) (fun h => h HFB.out) _
        have q1 := (q0.trans (Keep.of_below (S := fun y => ¬ F y) B1.out) (fun _ _ h => h)).setCell (p := ⟨b, off + j * 4 + 2, none⟩) (fun h => h HFB.out) (.string (markT (K + 2)))
        have q2 := q1.trans k2 (fun y _ h hg => h (HGF.out y hg).1)
        exact Lib.hid (KP.out.trans q2 (fun _ _ h => h))
      clear k2 r2 blk hcb
      go_wp2_with fail
      go_roundw
      case rel => exact ⟨j + 1, by omega, by go_num, by rw [HN.out]; exact congrArg (Value.int .i64) (by have := HK.out; omega), Lib.hid ⟨RN.out, KN.out⟩⟩
      case measure => simp [intOf]; omega
    · go_wp2_with fail
      go_ret
      obtain ⟨hrow, hkeep⟩ := HR.out
      rw [mixT_all k ts (by omega)] at hrow
      exact ⟨ret_int (by rw [List.take_of_length_le (by omega)]), hrow, hkeep⟩
theorem laws_markTermS (ts : List Tm) : MkC ts := by
  induction hN : nodess ts using Nat.strongRecOn generalizing ts with
  | ind N ih =>
    refine laws_markTermS_at ts fun t ht k n s kids e => ?_
    have := nodess_le ht
    have h2 : nodes t = 1 + nodess kids := by rw [e, nodes]
    exact ih _ (by omega) kids rfl
end Go.Proofs.Ytadcebdhgocmhaa
