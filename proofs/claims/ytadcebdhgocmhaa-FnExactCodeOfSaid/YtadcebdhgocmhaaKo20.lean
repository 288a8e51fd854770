/- Lemmas for the row. -/
import Derived.Test.YtadcebdhgocmhaaKo19
import Derived.Test.YtadcebdhgocmhaaKo9
import Derived.Test.YtadcebdhgocmhaaKo14
namespace Go.Proofs.Ytadcebdhgocmhaa
open Go.RowKit
set_option linter.unusedVariables false
def StrP (w : World) (G : Nat → Prop) (cells : List Value) (s : ByteArray) : Prop := cells = [.string s] ∧ s.size ≤ maxLen
abbrev StrRowO (w : World) (F : Nat → Prop) (A : Option Addr) (ss : List ByteArray) : Prop := RowOf StrP w F 1 A ss
theorem StrP.keepP : ∀ w w' G cells x, StrP w G cells x → (∀ b, G b → w'.heap[b]? = w.heap[b]?) → StrP w' G cells x := fun _ _ _ _ _ h _ => h
def PrP (w : World) (G : Nat → Prop) (cells : List Value) (p : Pr) : Prop := ∃ x : V2, cells = x.cells ∧ p.name = x.s ∧ x.m = p.body.length ∧ x.s.size ≤ maxLen ∧ p.body.length ≤ x.c ∧ x.c ≤ maxLen ∧ StRowO w G x.A p.body
abbrev PrRowO (w : World) (F : Nat → Prop) (A : Option Addr) (l : List Pr) : Prop := RowOf PrP w F 2 A l
theorem PrP.keepP : ∀ w w' G cells x, PrP w G cells x → (∀ b, G b → w'.heap[b]? = w.heap[b]?) → PrP w' G cells x := fun _ _ _ _ _ ⟨x, e, a1, a2, a3, a4, a5, r⟩ hk => ⟨x, e, a1, a2, a3, a4, a5, r.keep hk⟩
theorem RowOf.keepR {α : Type} {P : World → (Nat → Prop) → List Value → α → Prop} (hP : ∀ w w' G cells x, P w G cells x → (∀ b, G b → w'.heap[b]? = w.heap[b]?) → P w' G cells x) {w w' : World} {F : Nat → Prop} {sz : Nat} {A : Option Addr} {xs : List α} (h : RowOf P w F sz A xs) (hk : ∀ b, F b → w'.heap[b]? = w.heap[b]?) : RowOf P w' F sz A xs := by
  obtain ⟨cs, G, row, hx⟩ := h
  exact ⟨cs, G, row.keep hk, fun i hi => hP _ _ _ _ _ (hx i hi) fun b hb => hk b (row.2.2.1 i b hi hb)⟩
theorem RowOf.subR {α : Type} {P : World → (Nat → Prop) → List Value → α → Prop} {w : World} {F F' : Nat → Prop} {sz : Nat} {A : Option Addr} {xs : List α} (h : RowOf P w F sz A xs) (hF : ∀ b, F b → F' b) : RowOf P w F' sz A xs := by
  obtain ⟨cs, G, r, hx⟩ := h
  exact ⟨cs, G, r.sub hF, hx⟩
theorem StrRowO.keep {w w' : World} {F : Nat → Prop} {A : Option Addr} {ss : List ByteArray} (h : StrRowO w F A ss) (hk : ∀ b, F b → w'.heap[b]? = w.heap[b]?) : StrRowO w' F A ss := RowOf.keepR StrP.keepP h hk
theorem PrRowO.keep {w w' : World} {F : Nat → Prop} {A : Option Addr} {l : List Pr} (h : PrRowO w F A l) (hk : ∀ b, F b → w'.heap[b]? = w.heap[b]?) : PrRowO w' F A l := RowOf.keepR PrP.keepP h hk
theorem StrRowO.set {w : World} {F : Nat → Prop} {A : Option Addr} {l : List ByteArray} (h : StrRowO w F A l) {p : Addr} (hp : ¬ F p.block) (u : Value) : StrRowO (w.setCell p u) F A l := h.keep fun b hb => Below.heap_setCell w p u b (fun e => hp (by rw [← e]; exact hb))
theorem PrRowO.set {w : World} {F : Nat → Prop} {A : Option Addr} {l : List Pr} (h : PrRowO w F A l) {p : Addr} (hp : ¬ F p.block) (u : Value) : PrRowO (w.setCell p u) F A l := h.keep fun b hb => Below.heap_setCell w p u b (fun e => hp (by rw [← e]; exact hb))
theorem StrRowO.rd {w : World} {F : Nat → Prop} {A : Option Addr} {ss : List ByteArray} (h : StrRowO w F A ss) : Rd w 1 A ss.length (ss.map Value.string) ∧ ∀ s ∈ ss, s.size ≤ maxLen := by
  obtain ⟨cs, G, row, hx⟩ := h
  constructor
  · have e : cs = ss.map Value.string := by
      apply List.ext_getElem
      · rw [row.1.1]; simp
      · intro i h1 h2
        rw [row.1.1] at h1
        have hi : i < ss.length := by omega
        have := (hx i hi).1
        have h3 : ((cs.drop (i * 1)).take 1)[0]? = some (Value.string ss[i]) := by rw [this]; rfl
        rw [List.getElem?_take, if_pos (by omega), List.getElem?_drop, Nat.mul_one, Nat.add_zero] at h3
        rw [List.getElem?_eq_getElem (by omega)] at h3
        injection h3 with h3
        rw [h3]; simp
    rw [← e]; exact row.1
  · intro s hs
    obtain ⟨i, hi, rfl⟩ := List.getElem_of_mem hs
    exact (hx i hi).2
theorem PrRowO.any {w : World} {F : Nat → Prop} {A : Option Addr} {l : List Pr} (h : PrRowO w F A l) : PrRow w A l := by
  obtain ⟨cs, G, row, hx⟩ := h
  obtain ⟨xs, hl, hxs⟩ := list_of l.length (fun i (x : V2) => (cs.drop (i * 2)).take 2 = x.cells ∧ ∀ h : i < l.length, PrIs w x l[i]) (fun i hi => by obtain ⟨x, e, a1, a2, a3, a4, a5, r⟩ := hx i hi; exact ⟨x, e, fun _ => ⟨a1, a2, a3, a4, a5, r.any⟩⟩)
  refine ⟨xs, hl, ?_, fun i h h' => (hxs i h').2 h⟩
  have e : cs = xs.flatMap V2.cells := by
    apply List.ext_getElem?
    intro j
    by_cases hj : j < l.length * 2
    · have e1 : j = (j / 2) * 2 + j % 2 := by omega
      have hk : j / 2 < xs.length := by omega
      rw [e1, chunk_get (by omega) (hxs _ hk).1, flat_get V2.cells 2 v2_len _ _ _ hk (by omega)]
    · rw [List.getElem?_eq_none (by rw [row.1.1]; omega), List.getElem?_eq_none (by rw [flat_length V2.cells 2 v2_len]; omega)]
  rw [← e, hl]; exact row.1
def PgO (w : World) (F : Nat → Prop) (x : V3) (p : Pg) : Prop := ∃ G L P : Nat → Prop, (∀ b, G b → F b) ∧ (∀ b, L b → F b) ∧ (∀ b, P b → F b) ∧ (∀ b, G b → L b → False) ∧ (∀ b, G b → P b → False) ∧ (∀ b, L b → P b → False) ∧
  p.globals.length ≤ x.gc ∧ x.gc ≤ maxLen ∧ StrRowO w G x.gA p.globals ∧ p.locks.length ≤ x.lc ∧ x.lc ≤ maxLen ∧ StrRowO w L x.lA p.locks ∧ p.procs.length ≤ x.pc ∧ x.pc ≤ maxLen ∧ PrRowO w P x.pA p.procs
theorem PgO.any {w : World} {F : Nat → Prop} {x : V3} {p : Pg} (h : PgO w F x p) : PgIs w x p := by
  obtain ⟨G, L, P, _, _, _, _, _, _, a1, a2, a3, b1, b2, b3, c1, c2, c3⟩ := h
  exact ⟨a1, a2, a3.rd.1, a3.rd.2, b1, b2, b3.rd.1, b3.rd.2, c1, c2, c3.any⟩
theorem PgO.keep {w w' : World} {F : Nat → Prop} {x : V3} {p : Pg} (h : PgO w F x p) (hk : ∀ b, F b → w'.heap[b]? = w.heap[b]?) : PgO w' F x p := by
  obtain ⟨G, L, P, s1, s2, s3, d1, d2, d3, a1, a2, a3, b1, b2, b3, c1, c2, c3⟩ := h
  exact ⟨G, L, P, s1, s2, s3, d1, d2, d3, a1, a2, a3.keep fun b h => hk b (s1 b h), b1, b2, b3.keep fun b h => hk b (s2 b h), c1, c2, c3.keep fun b h => hk b (s3 b h)⟩
theorem PgO.belowO {w1 w2 : World} {F : Nat → Prop} {x : V3} {p : Pg} (h : PgO w1 F x p) (hF : ∀ b, F b → b < w1.heap.size) (hb : Below w1.heap.size w1 w2) : PgO w2 F x p := h.keep fun b hF' => hb.block b (hF b hF')
theorem OwnStrs.rowO {w0 w : World} {A : Option Addr} {c : Nat} {ss : List ByteArray} (h : OwnStrs w0 w (.slice A ss.length c) ss) (hs : ∀ s ∈ ss, s.size ≤ maxLen) : StrRowO w (Made w0 w) A ss := by
  refine ⟨ss.map Value.string, fun _ _ => False, ⟨Own.rd h, fun hn => ?_, fun i b _ hg => hg.elim, fun i j b _ _ _ hg => hg.elim⟩, fun i hi => ⟨?_, hs _ (List.getElem_mem hi)⟩⟩
  · rcases h.1.2 with ⟨he, h0⟩ | ⟨g, cap, cur, he, hb, hg, _⟩
    · omega
    · injection he with he
      exact ⟨g, 0, cur, _, he, ⟨hb, lt_of_block hg⟩, hg, fun _ _ hf => hf⟩
  · apply List.ext_getElem?
    intro j
    rw [List.getElem?_take]
    by_cases hj : j < 1
    · have : j = 0 := by omega
      subst this
      rw [if_pos (by omega), List.getElem?_drop]
      simp [hi]
    · rw [if_neg hj, List.getElem?_eq_none (by simp; omega)]
def RetPO (w : World) (p : Pr) (e : Ending) (w' : World) : Prop := ∃ x : V2, e = .returned (.agg #[.string x.s, .slice x.A x.m x.c]) ∧ PrP w' (Made w w') x.cells p ∧ Below w.heap.size w w'
set_option maxHeartbeats 400000 in
theorem laws_toProc (p : Pr) (x : V2) (w : World) (hp : PrIs w x p) (ht : totPr p ≤ 1048576) : Calls Try.prog 84 #[.agg #[.string x.s, .slice x.A x.m x.c]] w (RetPO w p) := by
  obtain ⟨nm, body⟩ := p
  obtain ⟨s, A, m, c⟩ := x
  obtain ⟨e1, e2, hs, hl, hc, row⟩ := hp
  simp only at e1 e2 hs hl hc row
  simp only
  subst e1 e2
  have RW := Lib.hid row
  have SS := Lib.hid hs
  have htb : totGs body ≤ 1048576 := by simp [totPr] at ht; omega
  clear row hs ht
  go_enter Try.func84, Try.ntmps84
  go_wp2_with fail
  refine (laws_toStmtSO body (fun g _ => laws_toStmtO g) A c _ ?_ hl hc htb).mono ?_
  · exact RW.out.belowA (by repeat' first|exact .refl _ _|exact Nat.le_refl _|refine .alloc ?_ ?_ _|refine .setCell ?_ ?_ _|refine .drew ?_|refine below_drewN ?_ _|assumption|(simp;done)|(simp;omega))
  rintro e w1 ⟨A1, c1, rfl, hl1, hc1, row1, b1⟩
  have R1 : Hid (StRowO w1 (fun b => w.heap.size + 3 ≤ b ∧ b < w1.heap.size) A1 body) := Lib.hid (row1.sub fun b hb => ⟨by have := hb.1; simpa using this, hb.2⟩)
  have B1 := Lib.hid b1
  obtain ⟨hcell, hfree⟩ := old_cells b1
  have hsz := b1.size
  simp only [World.size_alloc] at hcell hfree hsz
  clear row1 b1
  go_wp2_with fail
  refine bodyPost_ret (v := .agg #[.string nm, .slice A1 body.length c1]) (by simp [results, Try.results84, go_sem, hcell]) rfl ⟨⟨nm, A1, body.length, c1⟩, rfl, ⟨_, rfl, rfl, rfl, SS.out, hl1, hc1, ?_⟩, ?_⟩
  · refine StRowO.sub (F := fun b => w.heap.size + 3 ≤ b ∧ b < w1.heap.size) ?_ (fun b hb => ⟨by omega, by simp; omega⟩)
    exact ((R1.out.set (by simp; try omega) _).set (by simp; try omega) _).set (by simp; try omega) _
  · have hb : Below w.heap.size w w1 := Below.trans (by repeat' first|exact .refl _ _|exact Nat.le_refl _|refine .alloc ?_ ?_ _|refine .setCell ?_ ?_ _|refine .drew ?_|refine below_drewN ?_ _|assumption|(simp;done)|(simp;omega)) (B1.out.mono (by simp; omega))
    exact ((hb.setCell (by simp; omega) _).setCell (by simp) _).setCell (by simp) _
def put2 (w : World) (g o : Nat) (x : V2) : World := (w.setCell ⟨g, o, none⟩ (Value.string x.s)).setCell ⟨g, o + 1, none⟩ (Value.slice x.A x.m x.c)
theorem Own.put2 {w0 w : World} {e : TypeId} {g n cap : Nat} {xs : List Value} (h : Own w0 w e 2 (.slice (some ⟨g, 0, none⟩) n cap) n xs) (o : Nat) (x : V2) : Own w0 (put2 w g o x) e 2 (.slice (some ⟨g, 0, none⟩) n cap) n (sets xs o x.cells) :=
  (h.set o (Value.string x.s)).set (o + 1) (Value.slice x.A x.m x.c)
theorem put2_size (w : World) (g o : Nat) (x : V2) : (put2 w g o x).heap.size = w.heap.size := by simp [put2]
theorem PrP.put2 {w : World} {F : Nat → Prop} {cells : List Value} {t : Pr} (h : PrP w F cells t) {g : Nat} (hg : ¬ F g) (o : Nat) (x : V2) : PrP (put2 w g o x) F cells t :=
  PrP.keepP _ _ _ _ _ h fun b hb => by
    have hne : b ≠ g := fun e => hg (e ▸ hb)
    unfold Go.Proofs.Ytadcebdhgocmhaa.put2
    rw [Below.heap_setCell _ _ _ _ hne, Below.heap_setCell _ _ _ _ hne]
theorem prT : ElemT Try.prog 25 31 2 40 := ElemT.mk' (z := .agg #[.string ByteArray.empty, .slice none 0 0]) Try.underlying25 (by kernel_rfl) rfl (by decide)
theorem prZ : (Try.prog.info? 31).map (fun i => i.zero) = some (some (.agg #[.string ByteArray.empty, .slice none 0 0])) := by kernel_rfl
set_option maxHeartbeats 800000 in
theorem laws_toProcS (ts : List Pr) (A : Option Addr) (c : Nat) (w : World) (row : PrRow w A ts) (hl : ts.length ≤ c) (hc : c ≤ maxLen) (ht : totPrs ts ≤ 1048576) :
    Calls Try.prog 48 #[.slice A ts.length c] w fun e w' => ∃ A' c', e = .returned (.slice A' ts.length c') ∧ ts.length ≤ c' ∧ c' ≤ maxLen ∧ PrRowO w' (Made w w') A' ts ∧ Below w.heap.size w w' := by
  unfold maxLen at hc
  have RW := Lib.hid row
  have hlen := totPrs_len ts
  have HT := Lib.hid (fun t (hm : t ∈ ts) => show totPr t ≤ 1048576 from by have := totPrs_le hm; omega)
  clear row
  go_enter Try.func48, Try.ntmps48
  go_wp2_with (at_make; refine wpList_mkN rfl _ _ 25 rfl prT V2.cells v2_len z2 _ prZ rfl (Below.refl _ _) _ _ _ _ ts.length rfl rfl rfl rfl (by omega) (by simp only [maxLen]; omega) ?_; intro w1 own1 hlt1 hg1)
  go_loopw [4] (fun i wr => ∃ us : List V2, us.length ≤ ts.length ∧ i = .int .i64 (us.length : Int) ∧ Own w wr 31 2 (.slice (some ⟨w.heap.size, 0, none⟩) ts.length ts.length) ts.length ((us ++ List.replicate (ts.length - us.length) z2).flatMap V2.cells) ∧ w.heap.size < wr.heap.size ∧ Hid (∃ G : Nat → Nat → Prop, (∀ k b, k < us.length → G k b → w.heap.size < b ∧ b < wr.heap.size) ∧ (∀ i j b, i < us.length → j < us.length → i ≠ j → G i b → G j b → False) ∧ ∀ k (hk : k < ts.length) (hk' : k < us.length), PrP wr (G k) us[k].cells ts[k])) (fun i _ => ts.length - (intOf i).toNat)
  case atStart => exact ⟨[], Nat.zero_le _, rfl, by simpa using own1, hlt1, Lib.hid ⟨fun _ _ => False, fun k b hk => absurd hk (by simp), fun i j b hk => absurd hk (by simp), fun k _ hk => absurd hk (by simp)⟩⟩
  case round =>
    obtain ⟨us, hk, rfl, own, hsz, HU⟩ := hrel
    have OW := Lib.hid own
    clear own own1 hlt1 hg1 hlen
    by_cases hlt : us.length < ts.length
    · obtain ⟨b, off, y, rfl, d0, d1, hterm⟩ := rd_proc (RW.out.belowA OW.out.2) hlt
      have HTm := Lib.hid hterm
      clear hterm
      have h0k : (0 : Int) ≤ (us.length : Int) := by omega
      go_wp2_with fail
      refine (laws_toProc _ y _ HTm.out (HT.out _ (List.getElem_mem hlt))).mono ?_
      rintro e w1 ⟨x, rfl, ht1, b1⟩
      have T1 := Lib.hid ht1
      have B1 := Lib.hid b1
      clear ht1 b1 d0 d1
      have O2 := Lib.hid (OW.out.below B1.out)
      have hp : us.length < (us ++ List.replicate (ts.length - us.length) z2).length := fill_get hlt
      obtain ⟨x0, q0⟩ : ∃ x, w1.cell? ⟨w.heap.size, us.length * 2, none⟩ = some x := ⟨_, O2.out.cellAt (j := us.length * 2) (by omega) ((flat_get V2.cells 2 v2_len _ us.length 0 hp (by omega)).trans rfl)⟩
      obtain ⟨x1, q1⟩ : ∃ x, w1.cell? ⟨w.heap.size, us.length * 2 + 1, none⟩ = some x := ⟨_, O2.out.cellAt (j := us.length * 2 + 1) (by omega) ((flat_get V2.cells 2 v2_len _ us.length 1 hp (by omega)).trans rfl)⟩
      have r0 := O2.out.freeAt (us.length * 2)
      have r1 := O2.out.freeAt (us.length * 2 + 1)
      have e2 := flat_sets V2.cells 2 v2_len (us ++ List.replicate (ts.length - us.length) z2) us.length hp x
      rw [fill_set hlt] at e2
      have OS := O2.out.put2 (us.length * 2) x
      rw [e2] at OS
      have O3 := Lib.hid OS
      have HZ := Lib.hid (put2_size w1 w.heap.size (us.length * 2) x)
      have hs1 := B1.out.size
      have hu : Hid (∃ G : Nat → Nat → Prop, (∀ k b, k < (us ++ [x]).length → G k b → w.heap.size < b ∧ b < (put2 w1 w.heap.size (us.length * 2) x).heap.size) ∧ (∀ i j b, i < (us ++ [x]).length → j < (us ++ [x]).length → i ≠ j → G i b → G j b → False) ∧ ∀ k (hk : k < ts.length) (hk' : k < (us ++ [x]).length), PrP (put2 w1 w.heap.size (us.length * 2) x) (G k) (us ++ [x])[k].cells ts[k]) := by
        obtain ⟨G, hG1, hG2, hG3⟩ := HU.out
        have hz := HZ.out
        refine Lib.hid ⟨fun k b => if k < us.length then G k b else (wr.heap.size ≤ b ∧ b < w1.heap.size), fun k b hk hb => ?_, fun i j b hi hj hne h1 h2 => ?_, fun k hk hk' => ?_⟩
        · by_cases e : k < us.length
          · simp only [e, if_true] at hb; have := hG1 k b e hb; omega
          · simp only [e, if_false] at hb; omega
        · simp only [List.length_append, List.length_cons, List.length_nil] at hi hj
          by_cases e : i < us.length
          · by_cases e' : j < us.length
            · simp only [e, e', if_true] at h1 h2; exact hG2 i j b e e' hne h1 h2
            · simp only [e, e', if_true, if_false] at h1 h2; have := hG1 i b e h1; omega
          · by_cases e' : j < us.length
            · simp only [e, e', if_true, if_false] at h1 h2; have := hG1 j b e' h2; omega
            · omega
        · by_cases e : k < us.length
          · rw [List.getElem_append_left e]
            simp only [e, if_true]
            exact (PrP.keepP _ _ _ _ _ (hG3 k hk e) fun b hb => B1.out.block b (hG1 k b e hb).2).put2 (fun hb => by have := hG1 k _ e hb; omega) _ _
          · have e2 : k = us.length := by simp at hk'; omega
            subst e2
            simp only [List.getElem_concat_length, Nat.lt_irrefl, if_false]
            exact T1.out.put2 (fun hb => by have := hb.1; omega) _ _
      clear OS e2
      go_wp2_with fail
      go_roundw
      case rel => exact ⟨us ++ [x], by simp; omega, by simp, O3.out, by have := HZ.out; simp; omega, hu⟩
      case measure => simp [intOf]; omega
    · have e : us.length = ts.length := by omega
      have OE := OW.out
      rw [e, Nat.sub_self, List.replicate_zero, List.append_nil] at OE
      have HE := Lib.hid e
      have OB := Lib.hid OE
      clear OE OW e
      go_wp2_with fail
      go_ret
      obtain ⟨G, hG1, hG2, hG3⟩ := HU.out
      have he := HE.out
      refine ⟨_, _, rfl, Nat.le_refl _, by simp only [maxLen]; omega, ⟨us.flatMap V2.cells, G, ⟨OB.out.rd, fun hn => ?_, fun i b hi hb => ?_, fun i j b hi hj => hG2 i j b (by omega) (by omega)⟩, fun k hk => ?_⟩, OB.out.2⟩
      · rcases OB.out.1.2 with ⟨h, _⟩ | ⟨g, cap, cur, h, hb, hg, _⟩
        · simp at h
        · injection h with h
          injection h with h
          injection h with h
          subst h
          exact ⟨_, 0, cur, _, rfl, ⟨Nat.le_refl _, hsz⟩, hg, fun i hi hb => by have := hG1 i _ (by omega) hb; omega⟩
      · have := hG1 i b (by omega) hb
        exact ⟨by omega, by omega⟩
      · have hk' : k < us.length := by omega
        rw [flat_chunk V2.cells 2 v2_len us k hk']
        exact hG3 k hk hk'
def RetQO (w : World) (p : Pg) (e : Ending) (w' : World) : Prop := ∃ x : V3, e = .returned (x.val p) ∧ PgO w' (Made w w') x p ∧ Below w.heap.size w w'
theorem totS_len (ss : List ByteArray) : ss.length ≤ totS ss := by unfold totS; omega
set_option maxHeartbeats 800000 in
theorem laws_toProg (p : Pg) (x : V3) (w : World) (hp : PgIs w x p) (ht : totPg p ≤ 1048576) : Calls Try.prog 17 #[x.val p] w (RetQO w p) := by
  obtain ⟨gs, ls, ps⟩ := p
  obtain ⟨gA, gc, lA, lc, pA, pc⟩ := x
  have HP := Lib.hid hp
  have hpc := hp.p2
  have hpl := hp.p1
  simp only at hpc hpl
  have htg : gs.length ≤ 1048576 := by have := totS_len gs; simp [totPg] at ht; omega
  have htl : ls.length ≤ 1048576 := by have := totS_len ls; simp [totPg] at ht; omega
  have htp : totPrs ps ≤ 1048576 := by simp [totPg] at ht; omega
  unfold V3.val
  simp only
  clear hp ht
  go_enter Try.func17, Try.ntmps17
  go_wp2_with fail
  refine (laws_toStringSO _ gs _ (HP.out.gs.below (by repeat' first|exact .refl _ _|exact Nat.le_refl _|refine .alloc ?_ ?_ _|refine .setCell ?_ ?_ _|refine .drew ?_|refine below_drewN ?_ _|assumption|(simp;done)|(simp;omega))) htg).mono ?_
  rintro e w1 ⟨A1, c1, rfl, own1⟩
  have OA : Own w w1 43 3 (.slice (some ⟨w.heap.size, 0, none⟩) 1 1) 1 [.slice gA gs.length gc, .slice lA ls.length lc, .slice pA ps.length pc] := (((Own.lit (Below.refl _ _) _ 3 1 #[.slice gA gs.length gc, .slice lA ls.length lc, .slice pA ps.length pc] (by simp [maxLen]) rfl).alloc _).alloc _).below own1.2
  have OR : Own w w1 27 3 (.slice (some ⟨w.heap.size + 1, 0, none⟩) 1 1) 1 [.slice none 0 0, .slice none 0 0, .slice none 0 0] := by
    have := ((Own.lit (w0 := w) (Below.alloc (Below.refl _ _) (Nat.le_refl _) (.cells #[.slice gA gs.length gc, .slice lA ls.length lc, .slice pA ps.length pc] 43)) 27 3 1 #[.slice none 0 0, .slice none 0 0, .slice none 0 0] (by simp [maxLen]) rfl).alloc (.cells #[.slice none 0 0, .slice none 0 0, .slice none 0 0] 27)).below own1.2
    simpa using this
  have OO : Own w w1 27 3 (.slice (some ⟨w.heap.size + 1 + 1, 0, none⟩) 1 1) 1 [.slice none 0 0, .slice none 0 0, .slice none 0 0] := by
    have := (Own.lit (w0 := w) (Below.alloc (Below.alloc (Below.refl _ _) (Nat.le_refl _) (.cells #[.slice gA gs.length gc, .slice lA ls.length lc, .slice pA ps.length pc] 43)) (by simp) (.cells #[.slice none 0 0, .slice none 0 0, .slice none 0 0] 27)) 27 3 1 #[.slice none 0 0, .slice none 0 0, .slice none 0 0] (by simp [maxLen]) rfl).below own1.2
    simpa using this
  have GS : Hid (StrRowO w1 (fun b => w.heap.size + 3 ≤ b ∧ b < w1.heap.size) A1 gs) := Lib.hid ((own1.rowO HP.out.g4).subR fun b hb => ⟨by have := hb.1; simpa using this, hb.2⟩)
  have hc1 := own_cap' own1
  have hl1 : gs.length ≤ c1 := by obtain ⟨A, c, e, h⟩ := own1.slice; injection e with _ _ e; omega
  have o1 := OA.cellAt (j := 1) (by omega) rfl
  have u0 := OO.cellAt (j := 0) (by omega) rfl
  have f0 := OO.freeAt 0
  have hq1 : w.heap.size + 1 + 1 < w1.heap.size := cell_lt u0
  have OA1 := Lib.hid (Own.set_other OA OO (by omega) (by omega) 0 (.slice A1 gs.length c1))
  have OR1 := Lib.hid (Own.set_other OR OO (by omega) (by omega) 0 (.slice A1 gs.length c1))
  have OO1 : Hid (Own w (w1.setCell ⟨w.heap.size + 1 + 1, 0, none⟩ (.slice A1 gs.length c1)) 27 3 (.slice (some ⟨w.heap.size + 1 + 1, 0, none⟩) 1 1) 1 [.slice A1 gs.length c1, .slice none 0 0, .slice none 0 0]) := Lib.hid (OO.set 0 (.slice A1 gs.length c1))
  have GS1 := Lib.hid (GS.out.set (p := ⟨w.heap.size + 1 + 1, 0, none⟩) (by simp; try omega) (.slice A1 gs.length c1))
  clear own1 OA OR OO GS
  go_wp2_with fail
  refine (laws_toStringSO _ ls _ (HP.out.ls.below OO1.out.2) htl).mono ?_
  rintro e w2 ⟨A2, c2, rfl, own2⟩
  have OA := OA1.out.below own2.2
  have OR := OR1.out.below own2.2
  have OO := OO1.out.below own2.2
  have hz2 : w1.heap.size ≤ w2.heap.size := by have := own2.2.size; simpa using this
  have LS : Hid (StrRowO w2 (fun b => w1.heap.size ≤ b ∧ b < w2.heap.size) A2 ls) := Lib.hid ((own2.rowO HP.out.l4).subR fun b hb => ⟨by have := hb.1; simpa using this, hb.2⟩)
  have hc2 := own_cap' own2
  have hl2 : ls.length ≤ c2 := by obtain ⟨A, c, e, h⟩ := own2.slice; injection e with _ _ e; omega
  have o2 := OA.cellAt (j := 2) (by omega) rfl
  have u1 := OO.cellAt (j := 1) (by omega) rfl
  have f1 := OO.freeAt 1
  have OR2 := Lib.hid (Own.set_other OR OO (by omega) (by omega) 1 (.slice A2 ls.length c2))
  have OO2 : Hid (Own w (w2.setCell ⟨w.heap.size + 1 + 1, 1, none⟩ (.slice A2 ls.length c2)) 27 3 (.slice (some ⟨w.heap.size + 1 + 1, 0, none⟩) 1 1) 1 [.slice A1 gs.length c1, .slice A2 ls.length c2, .slice none 0 0]) := Lib.hid (OO.set 1 (.slice A2 ls.length c2))
  have GS2 : Hid (StrRowO (w2.setCell ⟨w.heap.size + 1 + 1, 1, none⟩ (.slice A2 ls.length c2)) (fun b => w.heap.size + 3 ≤ b ∧ b < w1.heap.size) A1 gs) := Lib.hid ((GS1.out.keep fun b hb => own2.2.block b (by simp; omega)).set (p := ⟨w.heap.size + 1 + 1, 1, none⟩) (by simp; try omega) _)
  have LS2 := Lib.hid (LS.out.set (p := ⟨w.heap.size + 1 + 1, 1, none⟩) (by simp; try omega) (.slice A2 ls.length c2))
  clear own2 OA OR OO OA1 OR1 OO1 GS1 LS o1 u0 f0
  go_wp2_with fail
  refine (laws_toProcS ps pA pc _ (HP.out.p3.belowA OO2.out.2) hpl hpc htp).mono ?_
  rintro e w3 ⟨A3, c3, rfl, hl3, hc3, row3, b3⟩
  have OR := OR2.out.below b3
  have OO := OO2.out.below b3
  have hz3 : w2.heap.size ≤ w3.heap.size := by have := b3.size; simpa using this
  have GS3 : Hid (StrRowO w3 (fun b => w.heap.size + 3 ≤ b ∧ b < w1.heap.size) A1 gs) := Lib.hid (GS2.out.keep fun b hb => b3.block b (by simp; omega))
  have LS3 : Hid (StrRowO w3 (fun b => w1.heap.size ≤ b ∧ b < w2.heap.size) A2 ls) := Lib.hid (LS2.out.keep fun b hb => b3.block b (by simp; omega))
  have PS3 : Hid (PrRowO w3 (fun b => w2.heap.size ≤ b ∧ b < w3.heap.size) A3 ps) := Lib.hid (row3.subR fun b hb => ⟨by have := hb.1; simpa using this, hb.2⟩)
  have hB3 := Lib.hid OO.2
  have o0 := OO.cellAt (j := 0) (by omega) rfl
  have r0 := OR.cellAt (j := 0) (by omega) rfl
  have h0 := OR.freeAt 0
  have o1 := OO.cellAt (j := 1) (by omega) rfl
  have r1 := OR.cellAt (j := 1) (by omega) rfl
  have h1 := OR.freeAt 1
  have o2' := OO.cellAt (j := 2) (by omega) rfl
  have r2 := OR.cellAt (j := 2) (by omega) rfl
  have h2 := OR.freeAt 2
  have f2 := OO.freeAt 2
  clear row3 b3 OR OO OR2 OO2 GS2 LS2 o2 u1 f1
  go_wp2_with fail
  refine bodyPost_ret (v := .agg #[.slice A1 gs.length c1, .slice A2 ls.length c2, .slice A3 ps.length c3]) (by simp [results, Try.results17, go_sem, r0, r1, r2]) rfl ⟨⟨A1, c1, A2, c2, A3, c3⟩, rfl, ⟨(fun b => w.heap.size + 3 ≤ b ∧ b < w1.heap.size), (fun b => w1.heap.size ≤ b ∧ b < w2.heap.size), (fun b => w2.heap.size ≤ b ∧ b < w3.heap.size), (fun b hb => ⟨by omega, by simp; omega⟩), (fun b hb => ⟨by omega, by simp; omega⟩), (fun b hb => ⟨by omega, by simp; omega⟩), (fun b h1 h2 => by omega), (fun b h1 h2 => by omega), (fun b h1 h2 => by omega), hl1, hc1, ?_, hl2, hc2, ?_, hl3, hc3, ?_⟩, ?_⟩
  · exact (((GS3.out.set (by simp; try omega) _).set (by simp; try omega) _).set (by simp; try omega) _).set (by simp; try omega) _
  · exact (((LS3.out.set (by simp; try omega) _).set (by simp; try omega) _).set (by simp; try omega) _).set (by simp; try omega) _
  · exact (((PS3.out.set (by simp; try omega) _).set (by simp; try omega) _).set (by simp; try omega) _).set (by simp; try omega) _
  · have hb := hB3.out
    exact (((hb.setCell (by simp; omega) _).setCell (by simp) _).setCell (by simp) _).setCell (by simp) _
end Go.Proofs.Ytadcebdhgocmhaa
