/- Several texts in one: StTxt, StSay, Bldr, StWrite, StTxtLaw. -/
import Derived.Test.YtefcdpkficojgaaDoorTxtAll
import Derived.Test.YtefcdpkficojgaaDoorStOk
import Derived.Deep.CutRange
import Derived.Lib.Builder
import Derived.Laws.Externs
import Derived.Test.YtefcdpkficojgaaDoorShelf
import Derived.Test.YtefcdpkficojgaaDoorStOkLaw
namespace Go.Proofs.YtefcdpkficojgaaDoor
open Go.RowKit
set_option linter.unusedVariables false


def blanksL (n : Nat) : List UInt8 := List.replicate n 32
theorem blanksL_len (n : Nat) : (blanksL n).length = n := by simp [blanksL]
theorem blanksL_succ (n : Nat) : blanksL (n + 1) = blanksL n ++ [32] := by rw [blanksL, blanksL, List.replicate_succ']
def wdB (k : Int) : ByteArray := if k = 2 then ⟨#[105, 102]⟩ else if k = 3 then ⟨#[119, 104, 105, 108, 101]⟩ else if k = 4 then ⟨#[99, 97, 108, 108]⟩ else if k = 5 then ⟨#[115, 112, 97, 119, 110]⟩ else if k = 6 then ⟨#[108, 111, 99, 107]⟩ else if k = 7 then ⟨#[117, 110, 108, 111, 99, 107]⟩ else ⟨#[115, 107, 105, 112]⟩
def wdL (k : Int) : List UInt8 := (wdB k).data.toList
theorem wdL_len (k : Int) : (wdL k).length ≤ 6 := by
  unfold wdL wdB
  repeat' split
  all_goals decide
def elseL (ah : Nat) (et : List UInt8) (n : Nat) : List UInt8 := if n = 0 then [] else [32, 101, 108, 115, 101] ++ ([32, 123, 10] ++ et ++ blanksL ah ++ [125])
def bodyL (ah : Nat) (k : Int) (nm tx bt et : List UInt8) (n : Nat) : List UInt8 :=
  if k = 1 then nm ++ [32, 61, 32] ++ tx ++ [59]
  else if k = 2 ∨ k = 3 then wdL k ++ [32] ++ tx ++ ([32, 123, 10] ++ bt ++ blanksL ah ++ [125]) ++ elseL ah et n
  else if k = 8 then [115, 107, 105, 112, 59]
  else wdL k ++ [32] ++ nm ++ [59]
mutual
def txtG (ah : Nat) : St → List UInt8
  | .mk k s t b e => blanksL ah ++ bodyL ah k s.data.toList (txtT t) (txtGs (ah + 1) b) (txtGs (ah + 1) e) e.length ++ [10]
def txtGs (ah : Nat) : List St → List UInt8
  | [] => []
  | g :: r => txtG ah g ++ txtGs ah r
end
theorem txtGs_append (ah : Nat) (l r : List St) : txtGs ah (l ++ r) = txtGs ah l ++ txtGs ah r := by
  induction l with
  | nil => simp [txtGs]
  | cons t l ih => rw [List.cons_append, txtGs, txtGs, ih, List.append_assoc]
theorem txtGs_take (ah : Nat) (l : List St) (j : Nat) (h : j < l.length) : txtGs ah (l.take (j + 1)) = txtGs ah (l.take j) ++ txtG ah l[j] := by
  have e : l.take (j + 1) = l.take j ++ [l[j]] := List.take_succ_eq_append_getElem h
  rw [e, txtGs_append]; simp [txtGs]
theorem txtG_1 {ah : Nat} {s : ByteArray} {t : Tm} {b e : List St} : txtG ah (.mk 1 s t b e) = blanksL ah ++ (s.data.toList ++ [32, 61, 32]) ++ txtT t ++ [59] ++ [10] := by
  rw [txtG, bodyL, if_pos rfl]; simp
theorem txtG_m {ah : Nat} {k : Int} {s : ByteArray} {t : Tm} {b e : List St} (hk : k = 2 ∨ k = 3) : txtG ah (.mk k s t b e) = blanksL ah ++ (wdL k ++ [32]) ++ txtT t ++ ([32, 123, 10] ++ txtGs (ah + 1) b ++ blanksL ah ++ [125]) ++ elseL ah (txtGs (ah + 1) e) e.length ++ [10] := by
  rw [txtG, bodyL, if_neg (by omega), if_pos hk]; simp
theorem txtG_8 {ah : Nat} {s : ByteArray} {t : Tm} {b e : List St} : txtG ah (.mk 8 s t b e) = blanksL ah ++ [115, 107, 105, 112, 59] ++ [10] := by
  rw [txtG, bodyL, if_neg (by omega), if_neg (by omega), if_pos rfl]
theorem txtG_w {ah : Nat} {k : Int} {s : ByteArray} {t : Tm} {b e : List St} (hk : k = 4 ∨ k = 5 ∨ k = 6 ∨ k = 7) : txtG ah (.mk k s t b e) = blanksL ah ++ (wdL k ++ [32] ++ s.data.toList ++ [59]) ++ [10] := by
  rw [txtG, bodyL, if_neg (by omega), if_neg (by omega), if_neg (by omega)]
theorem shape_kind {k : Int} {s : ByteArray} {t : Tm} {b e : List St} (h : shapeG (.mk k s t b e) = true) : k = 1 ∨ k = 2 ∨ k = 3 ∨ k = 4 ∨ k = 5 ∨ k = 6 ∨ k = 7 ∨ k = 8 := by
  rw [shapeG, shapeB] at h
  by_cases h1 : k = 1
  · exact .inl h1
  rw [if_neg h1] at h
  by_cases h2 : k = 2
  · exact .inr (.inl h2)
  rw [if_neg h2] at h
  by_cases h3 : k = 3
  · exact .inr (.inr (.inl h3))
  rw [if_neg h3] at h
  by_cases h4 : k = 4 ∨ k = 5 ∨ k = 6 ∨ k = 7
  · omega
  rw [if_neg h4] at h
  by_cases h8 : k = 8
  · omega
  rw [if_neg h8] at h
  cases h
theorem len0 {α : Type} {l : List α} (h : ((l.length : Int) == 0) = true) : l = [] := by
  rw [beq_iff_eq] at h
  exact List.eq_nil_of_length_eq_zero (by omega)
theorem shape_1 {s : ByteArray} {t : Tm} {b e : List St} (h : shapeG (.mk 1 s t b e) = true) : isNameL s.data.toList = true ∧ okT 6 t = true ∧ b = [] ∧ e = [] := by
  rw [shapeG, shapeB, if_pos rfl] at h
  simp only [Bool.and_eq_true] at h
  exact ⟨h.1.1.1, h.1.1.2, len0 h.1.2, len0 h.2⟩
theorem shape_2 {s : ByteArray} {t : Tm} {b e : List St} (h : shapeG (.mk 2 s t b e) = true) : okT 6 t = true := by
  rw [shapeG, shapeB, if_neg (by decide), if_pos rfl] at h
  simp only [Bool.and_eq_true] at h
  exact h.2
theorem shape_3 {s : ByteArray} {t : Tm} {b e : List St} (h : shapeG (.mk 3 s t b e) = true) : okT 6 t = true ∧ e = [] := by
  rw [shapeG, shapeB, if_neg (by decide), if_neg (by decide), if_pos rfl] at h
  simp only [Bool.and_eq_true] at h
  exact ⟨h.1.2, len0 h.2⟩
theorem shape_w {k : Int} {s : ByteArray} {t : Tm} {b e : List St} (hk : k = 4 ∨ k = 5 ∨ k = 6 ∨ k = 7) (h : shapeG (.mk k s t b e) = true) : isNameL s.data.toList = true ∧ b = [] ∧ e = [] := by
  rw [shapeG, shapeB, if_neg (by omega), if_neg (by omega), if_neg (by omega), if_pos hk] at h
  simp only [Bool.and_eq_true] at h
  exact ⟨h.1.1.1, len0 h.1.2, len0 h.2⟩
theorem right_shape {deep : Nat} {g : St} (h : rightG deep g = true) : shapeG g = true := by
  cases hs : shapeG g with
  | true => rfl
  | false => rw [rightG_shape hs] at h; cases h
theorem rightGs_get {deep : Nat} {l : List St} (h : rightGs deep l = true) {j : Nat} (hj : j < l.length) : rightG deep l[j] = true := by
  cases hr : rightG deep l[j] with
  | true => rfl
  | false => rw [rightGs_no deep l j hj hr] at h; cases h
theorem right_many {deep : Nat} {k : Int} {s : ByteArray} {t : Tm} {b e : List St} (hk : k = 2 ∨ k = 3) (h : rightG deep (.mk k s t b e) = true) : okT 6 t = true ∧ ∃ d, deep = d + 1 ∧ rightGs d b = true ∧ rightGs d e = true := by
  have hs := right_shape h
  have hm : manyB k = true := by rcases hk with rfl | rfl <;> decide
  rw [rightG_many hs hm, Bool.and_eq_true, Bool.and_eq_true, decide_eq_true_eq] at h
  refine ⟨?_, deep - 1, by omega, h.1.2, h.2⟩
  rcases hk with rfl | rfl
  · exact shape_2 hs
  · exact (shape_3 hs).1
/-- the lines of right statements are short -/
theorem txtG_len : ∀ (N : Nat) (g : St), snodes g = N → ∀ (deep ah : Nat), rightG deep g = true → ah + deep ≤ 26 → (txtG ah g).length ≤ 3000 * snodes g := by
  intro N
  induction N using Nat.strongRecOn with
  | ind N ih =>
    intro g hN deep ah h hd
    have many : ∀ (l : List St) (d : Nat), (∀ x ∈ l, snodes x < N) → rightGs d l = true → ah + 1 + d ≤ 26 → (txtGs (ah + 1) l).length ≤ 3000 * snodess l := by
      intro l
      induction l with
      | nil => intro d _ _ _; simp [txtGs]
      | cons x r ihl =>
        intro d hx hr hd'
        rw [rightGs, Bool.and_eq_true] at hr
        have h1 := ih (snodes x) (hx x (by simp)) x rfl d (ah + 1) hr.1 hd'
        have h2 := ihl d (fun y hy => hx y (by simp [hy])) hr.2 hd'
        rw [txtGs, snodess, List.length_append]
        omega
    obtain ⟨k, s, t, b, e⟩ := g
    have hs := right_shape h
    have hk := shape_kind hs
    have hw := wdL_len k
    by_cases hm : k = 2 ∨ k = 3
    · obtain ⟨ht, d, rfl, hb, he⟩ := right_many hm h
      have h1 := many b d (fun x hx => by rw [← hN]; exact body_lt hx) hb (by omega)
      have h2 := many e d (fun x hx => by rw [← hN]; exact else_lt hx) he (by omega)
      have h3 := txt_len 6 t ht
      have h4 := blanksL_len ah
      rw [txtG_m hm, snodes, elseL]
      split
      all_goals
        simp only [List.length_append, List.length_cons, List.length_nil, h4]
        omega
    by_cases h1 : k = 1
    · subst h1
      obtain ⟨hn, ht, rfl, rfl⟩ := shape_1 hs
      have h3 := txt_len 6 t ht
      have h4 := blanksL_len ah
      have h5 := name_len hn
      rw [txtG_1, snodes]
      simp only [List.length_append, List.length_cons, List.length_nil, h4]
      omega
    by_cases h8 : k = 8
    · subst h8
      have h4 := blanksL_len ah
      rw [txtG_8, snodes]
      simp only [List.length_append, List.length_cons, List.length_nil, h4]
      omega
    have hkw : k = 4 ∨ k = 5 ∨ k = 6 ∨ k = 7 := by omega
    obtain ⟨hn, rfl, rfl⟩ := shape_w hkw hs
    have h4 := blanksL_len ah
    have h5 := name_len hn
    rw [txtG_w hkw, snodes]
    simp only [List.length_append, List.length_cons, List.length_nil, h4]
    omega
theorem txtGs_len {l : List St} {deep ah : Nat} (h : rightGs deep l = true) (hd : ah + deep ≤ 26) : (txtGs ah l).length ≤ 3000 * snodess l := by
  induction l with
  | nil => simp [txtGs]
  | cons x r ih =>
    rw [rightGs, Bool.and_eq_true] at h
    have h1 := txtG_len _ x rfl deep ah h.1 hd
    have h2 := ih h.2
    rw [txtGs, snodess, List.length_append]
    omega

theorem Grew.linkB {v u : Value} {w w1 w2 w3 : World} (h : Grew v u w w1) (b : Below w1.heap.size w1 w2) (k : Below w2.heap.size w2 w3) : Grew v u w w3 := h.trans ((Grew.of_below b).trans (Grew.of_below k))
theorem spec_l04Word (k : Int) (hk : k = 2 ∨ k = 3 ∨ k = 4 ∨ k = 5 ∨ k = 6 ∨ k = 7) (w : World) : Calls Tryd.prog 140 #[.int .i64 k] w fun e w' => e = .returned (.string (wdB k)) ∧ Below w.heap.size w w' := by
  rcases hk with rfl | rfl | rfl | rfl | rfl | rfl
  all_goals
    go_enter Tryd.func140, Tryd.ntmps140
    go_wp2_with fail
    go_ret
    exact ⟨rfl, (by repeat' (first | exact Below.refl _ _ | exact Nat.le_refl _ | (refine Below.alloc ?_ ?_ _) | (refine Below.setCell ?_ ?_ _) | (refine Below.drew ?_) | (refine below_drewN ?_ _) | assumption | (simp; done) | (simp; omega)))⟩
set_option maxHeartbeats 800000 in
theorem spec_l04Blanks (ah : Nat) (hah : ah ≤ 1000) (w0 w : World) (v : Value) (acc : List UInt8) (own : OutB w0 w v acc) (hb : acc.length + ah ≤ 60000000000) :
    Calls Tryd.prog 138 #[v, .int .i64 (ah : Int)] w fun e w' => ∃ v', e = .returned v' ∧ OutB w0 w' v' (acc ++ blanksL ah) ∧ Grew v v' w w' := by
  have OW := Lib.hid own
  obtain ⟨A0, c0, rfl, _⟩ := own.slice
  clear own
  go_enter Tryd.func138, Tryd.ntmps138
  go_wp2_with fail
  go_loopw [0, 5] (fun ov iv wr => ∃ j : Nat, j ≤ ah ∧ iv = .int .i64 (j : Int) ∧ ∃ A' n c', ov = .slice A' n c' ∧ Hid (n = acc.length + j ∧ OutB w0 wr (.slice A' n c') (acc ++ blanksL j) ∧ Grew (.slice A0 acc.length c0) (.slice A' n c') w wr)) (fun _ iv _ => ah - (intOf iv).toNat)
  case atStart => exact ⟨0, Nat.zero_le _, rfl, A0, _, c0, rfl, Lib.hid ⟨rfl, by simpa [blanksL] using OW.out, Grew.refl _ _⟩⟩
  case round =>
    obtain ⟨j, hj, rfl, A', n, c', rfl, HR⟩ := hrel
    obtain ⟨hn, own, gr⟩ := HR.out
    have O1 := Lib.hid own
    have G1 := Lib.hid gr
    clear own gr HR
    by_cases hlt : j < ah
    case neg =>
      go_wp2_with fail
      go_ret
      have : j = ah := by omega
      subst this
      exact ⟨_, rfl, O1.out, G1.out⟩
    go_wp2_with (at_builtin; refine wpList_outB_some rfl _ _ rfl rfl (O1.out.alloc _) _ 1 1 [32] rfl (Rd.new _ 1 1 _ _ rfl) (by simp only [List.length_append, blanksL_len]; omega) ?_; intro v2 w2 own2 kp2)
    have O2 : Hid (OutB w0 w2 v2 (acc ++ blanksL (j + 1))) := Lib.hid (by rw [blanksL_succ, ← List.append_assoc]; exact own2)
    have G2 := Lib.hid (Grew.link G1.out (Below.alloc (Below.refl _ _) (Nat.le_refl _) _) kp2)
    clear own2 kp2
    obtain ⟨A3, c3, rfl, _⟩ := O2.out.slice
    go_roundw
    case rel => exact ⟨j + 1, by omega, by go_num, A3, _, c3, rfl, Lib.hid ⟨by simp only [List.length_append, blanksL_len, Nat.add_assoc], O2.out, G2.out⟩⟩
    case measure => simp [intOf]; omega
def blockL (ah : Nat) (l : List St) : List UInt8 := [32, 123, 10] ++ txtGs (ah + 1) l ++ blanksL ah ++ [125]
abbrev SayC (l : List St) : Prop := ∀ (deep ah : Nat) (A : Option Addr) (c : Nat) (w0 w : World) (v : Value) (acc : List UInt8), StRow AnyB w0 A l → l.length ≤ c → c ≤ maxLen → rightGs deep l = true → ah + deep ≤ 26 → OutB w0 w v acc → acc.length + 3000 * snodess l ≤ 50000000000 →
  Calls Tryd.prog 66 #[v, .slice A l.length c, .int .i64 (ah : Int)] w fun e w' => ∃ v', e = .returned v' ∧ OutB w0 w' v' (acc ++ txtGs ah l) ∧ Grew v v' w w'
set_option maxHeartbeats 800000 in
theorem spec_l04Block (l : List St) (ih : SayC l) (deep ah : Nat) (A : Option Addr) (c : Nat) (w0 w : World) (v : Value) (acc : List UInt8) (row : StRow AnyB w0 A l) (hl : l.length ≤ c) (hc : c ≤ maxLen) (hr : rightGs deep l = true) (hd : ah + 1 + deep ≤ 26) (own : OutB w0 w v acc) (hb : acc.length + 10 + 3000 * snodess l ≤ 50000000000) :
    Calls Tryd.prog 141 #[v, .slice A l.length c, .int .i64 (ah : Int)] w fun e w' => ∃ v', e = .returned v' ∧ OutB w0 w' v' (acc ++ blockL ah l) ∧ Grew v v' w w' := by
  have OW := Lib.hid own
  have RW := Lib.hid row
  have HR := Lib.hid hr
  have IH := Lib.hid ih
  have hbl := blanksL_len ah
  have htl := txtGs_len hr (ah := ah + 1) (by omega)
  obtain ⟨A0, c0, rfl, _⟩ := own.slice
  unfold maxLen at hc
  clear own row hr ih
  go_enter Tryd.func141, Tryd.ntmps141
  go_wp2_with (at_builtin; refine wpList_outB_str rfl _ _ rfl rfl OW.out ⟨#[32, 123, 10]⟩ rfl (by simp only [ByteArray.size, List.size_toArray, List.length_cons, List.length_nil]; omega) ?_; intro v2 w2 own2 kp2)
  have O2 : Hid (OutB w0 w2 v2 (acc ++ [32, 123, 10])) := Lib.hid own2
  have G2 := Lib.hid kp2
  clear own2 kp2
  obtain ⟨L2, hL2⟩ : ∃ L, acc ++ [32, 123, 10] = L := ⟨_, rfl⟩
  have hl2 : L2.length ≤ acc.length + 3 := by rw [← hL2]; simp
  have HL2 := Lib.hid hL2
  rw [hL2] at O2
  clear hL2
  obtain ⟨A2, c2, rfl, _⟩ := O2.out.slice
  go_wp2_with fail
  have hcl := IH.out deep (ah + 1) A c w0 w2 (.slice A2 L2.length c2) L2 RW.out hl (by unfold maxLen; omega) HR.out (by omega) O2.out (by omega)
  rw [show ((ah + 1 : Nat) : Int) = (ah : Int) + 1 from by omega] at hcl
  refine hcl.mono ?_
  rintro e w3 ⟨v3, rfl, o3, k3⟩
  have O3 := Lib.hid o3
  have G3 := Lib.hid (G2.out.trans k3)
  clear o3 k3 hcl
  obtain ⟨L3, hL3⟩ : ∃ L, L2 ++ txtGs (ah + 1) l = L := ⟨_, rfl⟩
  have hl3 : L3.length ≤ 55000000000 := by rw [← hL3, List.length_append]; omega
  have HL3 := Lib.hid hL3
  rw [hL3] at O3
  clear hL3
  obtain ⟨A3, c3, rfl, _⟩ := O3.out.slice
  go_wp2_with fail
  refine (spec_l04Blanks ah (by omega) w0 _ _ _ O3.out (by omega)).mono ?_
  rintro e w4 ⟨v4, rfl, o4, k4⟩
  have O4 := Lib.hid o4
  have G4 := Lib.hid (G3.out.trans k4)
  clear o4 k4
  obtain ⟨L4, hL4⟩ : ∃ L, L3 ++ blanksL ah = L := ⟨_, rfl⟩
  have hl4 : L4.length ≤ 56000000000 := by rw [← hL4, List.length_append]; omega
  have HL4 := Lib.hid hL4
  rw [hL4] at O4
  clear hL4
  obtain ⟨A4, c4, rfl, _⟩ := O4.out.slice
  go_wp2_with (at_builtin; refine wpList_outB_some rfl _ _ rfl rfl (O4.out.alloc _) _ 1 1 [125] rfl (Rd.new _ 1 1 _ _ rfl) (by omega) ?_; intro v5 w5 own5 kp5)
  go_ret
  refine ⟨_, rfl, ?_, Grew.link G4.out (Below.alloc (Below.refl _ _) (Nat.le_refl _) _) kp5⟩
  have e : acc ++ blockL ah l = L4 ++ [125] := by rw [← HL4.out, ← HL3.out, ← HL2.out]; simp [blockL]
  rw [e]
  exact own5
set_option maxHeartbeats 6400000 in
set_option maxRecDepth 100000 in
theorem spec_l04Say_at (l : List St) (ih : ∀ g ∈ l, ∀ t k s body els, g = .mk k s t body els → SayC body ∧ SayC els) : SayC l := by
  intro deep ah A c w0 w v acc row hl hc hrg hda own hb
  have IH := Lib.hid ih
  have RW := Lib.hid row
  have OW := Lib.hid own
  have HRL := Lib.hid hrg
  obtain ⟨A0, c0, rfl, _⟩ := own.slice
  unfold maxLen at hc
  clear ih row own hrg
  go_enter Tryd.func66, Tryd.ntmps66
  go_wp2_with fail
  go_loopw [0, 7] (fun ov iv wr => ∃ j : Nat, j ≤ l.length ∧ iv = .int .i64 (j : Int) ∧ ∃ A' n c', ov = .slice A' n c' ∧ Hid (n = (acc ++ txtGs ah (l.take j)).length ∧ OutB w0 wr (.slice A' n c') (acc ++ txtGs ah (l.take j)) ∧ Grew (.slice A0 acc.length c0) (.slice A' n c') w wr)) (fun _ iv _ => l.length - (intOf iv).toNat)
  case atStart => exact ⟨0, Nat.zero_le _, rfl, A0, _, c0, rfl, Lib.hid ⟨by simp [txtGs], by simpa [txtGs] using OW.out, Grew.refl _ _⟩⟩
  case round =>
    obtain ⟨j, hj, rfl, A', n, c', rfl, HR⟩ := hrel
    obtain ⟨hn, own, gr⟩ := HR.out
    have O1 := Lib.hid own
    have G1 := Lib.hid gr
    clear own gr HR
    by_cases hlt : j < l.length
    case neg =>
      go_wp2_with fail
      go_ret
      have h1 := O1.out
      have h2 := G1.out
      rw [List.take_of_length_le (by omega)] at h1
      exact ⟨_, rfl, h1, h2⟩
    have hst := snodess_take l j hlt
    have hle := snodess_take_le l (j + 1)
    have htk : rightGs deep (l.take j) = true := by
      have e : rightGs deep l = (rightGs deep (l.take j) && rightGs deep (l.drop j)) := by rw [← rightGs_append, List.take_append_drop]
      have h := HRL.out
      rw [e, Bool.and_eq_true] at h
      exact h.1
    have hal := txtGs_len htk (ah := ah) hda
    obtain ⟨ACC, hACC⟩ : ∃ L, acc ++ txtGs ah (l.take j) = L := ⟨_, rfl⟩
    have hac : ACC.length ≤ acc.length + 3000 * snodess (l.take j) := by rw [← hACC, List.length_append]; omega
    have HACC := Lib.hid hACC
    rw [hACC] at O1 hn
    clear hACC hal htk
    subst hn
    have HTK := Lib.hid (txtGs_take ah l j hlt)
    obtain ⟨b, off, x, rfl, _, ⟨d0, d1, d2, d3, d4, d5, d6, d7⟩, hg⟩ := rd_stmt RW.out hlt
    obtain ⟨t, body, els, heq, _, _, ht, hb1, hb2, hb3, rb, he1, he2, he3, re⟩ := hg.inv
    have VB := Lib.hid (IH.out l[j] (List.getElem_mem hlt) t _ _ body els heq).1
    have VE := Lib.hid (IH.out l[j] (List.getElem_mem hlt) t _ _ body els heq).2
    have HEQ := Lib.hid heq
    have RB := Lib.hid rb
    have RE := Lib.hid re
    have HT := Lib.hid ht
    have hrj := rightGs_get HRL.out hlt
    rw [heq] at hrj
    have HRG := Lib.hid hrj
    have HSH := Lib.hid (right_shape hrj)
    obtain ⟨k, xs, tk, tn, ts, tA, tm, tc, bA, bm, bc, eA, em, ec⟩ := x
    simp only [V8.term] at hb1 he1 hb2 hb3 he2 he3 d0 d1 d2 d3 d4 d5 d6 d7 RB RE HEQ HT HRG HSH VB VE
    subst hb1 he1
    have hkk := shape_kind HSH.out
    have h0k : (0 : Int) ≤ (j : Int) := by omega
    have hown := O1.out.own
    replace d0 := cell_keep hown d0
    replace d1 := cell_keep hown d1
    replace d2 := cell_keep hown d2
    replace d3 := cell_keep hown d3
    replace d4 := cell_keep hown d4
    replace d5 := cell_keep hown d5
    replace d6 := cell_keep hown d6
    replace d7 := cell_keep hown d7
    have hsn1 : 1 ≤ snodes l[j] := by rw [HEQ.out, snodes]; omega
    clear heq hg rb re ht hown hrj
    go_wp2_with fail
    refine (spec_l04Blanks ah (by omega) w0 _ _ _ (O1.out.alloc _) (by omega)).mono ?_
    rintro e w2 ⟨v2, rfl, o2, k2⟩
    have O2 := Lib.hid o2
    have G2 := Lib.hid (Grew.link G1.out (Below.alloc (Below.refl _ _) (Nat.le_refl _) _) k2)
    have K2 := Lib.hid (Grew.keepB k2 (O1.out.alloc _))
    have BX : BoxB (wr.alloc (.cells #[.int .i64 k, .string xs, .int .i64 tk, .int .i64 tn, .string ts, .slice tA tm tc, .slice bA body.length bc, .slice eA els.length ec] 104)) wr.heap.size [.int .i64 k, .string xs, .int .i64 tk, .int .i64 tn, .string ts, .slice tA tm tc, .slice bA body.length bc, .slice eA els.length ec] := BoxB.lit rfl
    have sn : Sane 5 (wr.alloc (.cells #[.int .i64 k, .string xs, .int .i64 tk, .int .i64 tn, .string ts, .slice tA tm tc, .slice bA body.length bc, .slice eA els.length ec] 104)) wr.heap.size := sane_new (by decide)
    have y0 := KeepT.cellT K2.out sn (BX 0 _ rfl)
    have y1 := KeepT.cellT K2.out sn (BX 1 _ rfl)
    have y2 := KeepT.cellT K2.out sn (BX 2 _ rfl)
    have y3 := KeepT.cellT K2.out sn (BX 3 _ rfl)
    have y4 := KeepT.cellT K2.out sn (BX 4 _ rfl)
    have y5 := KeepT.cellT K2.out sn (BX 5 _ rfl)
    have y6 := KeepT.cellT K2.out sn (BX 6 _ rfl)
    have y7 := KeepT.cellT K2.out sn (BX 7 _ rfl)
    have SN := Lib.hid (sane_keep sn (by simp) K2.out)
    obtain ⟨L2, hL2⟩ : ∃ L, ACC ++ blanksL ah = L := ⟨_, rfl⟩
    have hl2 : L2.length ≤ ACC.length + ah := by rw [← hL2, List.length_append, blanksL_len]; omega
    have HL2 := Lib.hid hL2
    rw [hL2] at O2
    clear hL2 o2 k2 K2 BX sn d0 d1 d2 d3 d4 d5 d6 d7
    obtain ⟨A2, c2, rfl, _⟩ := O2.out.slice
    generalize wr.heap.size = g at *
    by_cases e1 : k = 1
    · subst e1
      obtain ⟨hnm, hok, rfl, rfl⟩ := shape_1 HSH.out
      have HOK := Lib.hid hok
      have hxs := name_len hnm
      rw [size_list] at hxs
      have htl := txt_len 6 t hok
      clear hnm hok
      have HNM : Hid ((xs ++ ⟨#[32, 61, 32]⟩ : ByteArray).size = xs.size + 3) := Lib.hid (by simp only [ByteArray.size_append]; rfl)
      have hc1 : ¬ (9223372036854775807 < xs.size + 3) := by omega
      go_upto_region 9 with fail
      have oX := O2.out
      have gr := Grew.refl (.slice A2 L2.length c2) w2
      have KS : Hid (∀ w', KeepT 5 w2 w' → Below w0.heap.size w0 w' → KeepT 5 w2 w' ∧ Below w0.heap.size w0 w' ∧ w'.cell? ⟨g, 1, none⟩ = some (.string xs) ∧ w'.cell? ⟨g, 2, none⟩ = some (.int .i64 tk) ∧ w'.cell? ⟨g, 3, none⟩ = some (.int .i64 tn) ∧ w'.cell? ⟨g, 4, none⟩ = some (.string ts) ∧ w'.cell? ⟨g, 5, none⟩ = some (.slice tA tm tc)) := Lib.hid (fun w' hk hb => ⟨hk, hb, KeepT.cellT hk SN.out y1, KeepT.cellT hk SN.out y2, KeepT.cellT hk SN.out y3, KeepT.cellT hk SN.out y4, KeepT.cellT hk SN.out y5⟩)
      go_region_held3 (fun w' => KeepT 5 w2 w' ∧ Below w0.heap.size w0 w' ∧ w'.cell? ⟨g, 1, none⟩ = some (.string xs) ∧ w'.cell? ⟨g, 2, none⟩ = some (.int .i64 tk) ∧ w'.cell? ⟨g, 3, none⟩ = some (.int .i64 tn) ∧ w'.cell? ⟨g, 4, none⟩ = some (.string ts) ∧ w'.cell? ⟨g, 5, none⟩ = some (.slice tA tm tc))
        (first | exact KS.out _ (KeepT.trans' (Grew.keepB gr O2.out) (KeepT.of_below' (by repeat' (first | exact Below.refl _ _ | exact Nat.le_refl _ | (refine Below.alloc ?_ ?_ _) | (refine Below.setCell ?_ ?_ _) | (refine Below.drew ?_) | (refine below_drewN ?_ _) | assumption | (simp; done) | (simp; omega))))) (below_then2 oX.own (by repeat' (first | exact Below.refl _ _ | exact Nat.le_refl _ | (refine Below.alloc ?_ ?_ _) | (refine Below.setCell ?_ ?_ _) | (refine Below.drew ?_) | (refine below_drewN ?_ _) | assumption | (simp; done) | (simp; omega)))) | fail)
        (first
          | (refine step_outB_str (by rfl) _ _ (by rfl) (by rfl) (oX.below (by repeat' (first | exact Below.refl _ _ | exact Nat.le_refl _ | (refine Below.alloc ?_ ?_ _) | (refine Below.setCell ?_ ?_ _) | (refine Below.drew ?_) | (refine below_drewN ?_ _) | assumption | (simp; done) | (simp; omega)))) (xs ++ ⟨#[32, 61, 32]⟩) (by rfl) (by have h7 := HNM.out; (try simp only [List.length_append, List.length_cons, List.length_nil, size_list, blanksL_len]); omega) ?_; intro vY wY oY kY; have gr := Grew.link gr (by repeat' (first | exact Below.refl _ _ | exact Nat.le_refl _ | (refine Below.alloc ?_ ?_ _) | (refine Below.setCell ?_ ?_ _) | (refine Below.drew ?_) | (refine below_drewN ?_ _) | assumption | (simp; done) | (simp; omega))) kY; (try have li := (by first | exact Lies.grew li kY | exact Lies.grew (Lies.below li (Below.refl _ _).drew) kY | exact Lies.grew (Lies.new oX 59) kY | exact Lies.grew (Lies.below (Lies.new oX 59) (Below.refl _ _).drew) kY)); have oX := oY; clear oY kY)
          | (go_at_call 139; refine (spec_l03Say t 6 _ _ _ _ _ _ w0 _ _ _ HOK.out HT.out (oX.below (by repeat' (first | exact Below.refl _ _ | exact Nat.le_refl _ | (refine Below.alloc ?_ ?_ _) | (refine Below.setCell ?_ ?_ _) | (refine Below.drew ?_) | (refine below_drewN ?_ _) | assumption | (simp; done) | (simp; omega)))) (by have h7 := HNM.out; (try simp only [List.length_append, List.length_cons, List.length_nil, size_list, blanksL_len]); omega) (by omega)).mono ?_; rintro e wY ⟨vY, rfl, oY, kY⟩; have gr := Grew.link gr (by repeat' (first | exact Below.refl _ _ | exact Nat.le_refl _ | (refine Below.alloc ?_ ?_ _) | (refine Below.setCell ?_ ?_ _) | (refine Below.drew ?_) | (refine below_drewN ?_ _) | assumption | (simp; done) | (simp; omega))) kY; (try have li := (by first | exact Lies.grew li kY | exact Lies.grew (Lies.below li (Below.refl _ _).drew) kY | exact Lies.grew (Lies.new oX 59) kY | exact Lies.grew (Lies.below (Lies.new oX 59) (Below.refl _ _).drew) kY)); have oX := oY; clear oY kY)
          | (refine step_outB_some (by rfl) _ _ (by rfl) (by rfl) (oX.below (by repeat' (first | exact Below.refl _ _ | exact Nat.le_refl _ | (refine Below.alloc ?_ ?_ _) | (refine Below.setCell ?_ ?_ _) | (refine Below.drew ?_) | (refine below_drewN ?_ _) | assumption | (simp; done) | (simp; omega)))) _ 1 1 [59] (by rfl) (by first | exact (Lies.new oX 59).rd | exact (Lies.new oX 59).rd.drew | exact li.rd | exact li.rd.drew) (by have h7 := HNM.out; (try simp only [List.length_append, List.length_cons, List.length_nil, size_list, blanksL_len]); omega) ?_; intro vY wY oY kY; have gr := Grew.link gr (by repeat' (first | exact Below.refl _ _ | exact Nat.le_refl _ | (refine Below.alloc ?_ ?_ _) | (refine Below.setCell ?_ ?_ _) | (refine Below.drew ?_) | (refine below_drewN ?_ _) | assumption | (simp; done) | (simp; omega))) kY; have oX := oY; clear oY kY)
          | fail)
      all_goals
       obtain ⟨LX, hLX⟩ : ∃ L, L2 ++ (xs ++ ⟨#[32, 61, 32]⟩ : ByteArray).data.toList ++ txtT t ++ [59] = L := ⟨_, rfl⟩
       have hlx : LX.length ≤ 56000000000 := by
         have h7 := HNM.out
         have h8 : (⟨#[32, 101, 108, 115, 101]⟩ : ByteArray).size = 5 := rfl
         rw [← hLX]
         (try simp only [List.length_append, List.length_cons, List.length_nil, size_list, blanksL_len])
         omega
       have HLX := Lib.hid hLX
       rw [hLX] at oX
       clear hLX
       have OX := Lib.hid oX
       have GX := Lib.hid (G2.out.trans gr)
       clear oX gr
       first | (obtain ⟨AX, cX, rfl, _⟩ := OX.out.slice) | skip
       go_wp2_with (at_builtin; refine wpList_outB_some rfl _ _ rfl rfl (OX.out.alloc _) _ 1 1 [10] rfl (Rd.new _ 1 1 _ _ rfl) (by omega) ?_; intro v8 w8 own8 kp8)
       have O8 : Hid (OutB w0 w8 v8 (acc ++ txtGs ah (l.take (j + 1)))) := Lib.hid (by
         rw [HTK.out, ← List.append_assoc, HACC.out, HEQ.out, txtG_1]
         have e : ACC ++ (blanksL ah ++ (xs.data.toList ++ [32, 61, 32]) ++ txtT t ++ [59] ++ [10]) = L2 ++ (xs ++ ⟨#[32, 61, 32]⟩ : ByteArray).data.toList ++ txtT t ++ [59] ++ [10] := by rw [← HL2.out]; simp
         rw [e, HLX.out]
         exact own8)
       have G8 := Lib.hid (Grew.link GX.out (Below.alloc (Below.refl _ _) (Nat.le_refl _) _) kp8)
       clear own8 kp8
       obtain ⟨A9, c9, rfl, _⟩ := O8.out.slice
       go_roundw
       case rel => exact ⟨j + 1, by omega, by go_num, A9, _, c9, rfl, Lib.hid ⟨rfl, O8.out, G8.out⟩⟩
       case measure => simp [intOf]; omega
    by_cases e8 : k = 8
    · subst e8
      have HNM : Hid True := Lib.hid trivial
      go_upto_region 18 with (at_builtin; refine wpList_outB_str rfl _ _ rfl rfl O2.out ⟨#[115, 107, 105, 112, 59]⟩ rfl (by simp only [ByteArray.size, List.size_toArray, List.length_cons, List.length_nil]; omega) ?_; intro v3 w3 own3 kp3; obtain ⟨LX, hLX⟩ : ∃ L, L2 ++ [115, 107, 105, 112, 59] = L := ⟨_, rfl⟩; have OX : Hid (OutB w0 w3 v3 LX) := Lib.hid (by rw [← hLX]; exact own3); have HLX := Lib.hid hLX; have GX := Lib.hid (G2.out.trans kp3); clear own3 kp3 hLX; obtain ⟨AX, cX, rfl, _⟩ := OX.out.slice)
      have hlx : LX.length ≤ 56000000000 := by
        rw [← HLX.out]
        simp only [List.length_append, List.length_cons, List.length_nil]
        omega
      go_wp2_with (at_builtin; refine wpList_outB_some rfl _ _ rfl rfl (OX.out.alloc _) _ 1 1 [10] rfl (Rd.new _ 1 1 _ _ rfl) (by omega) ?_; intro v8 w8 own8 kp8)
      have O8 : Hid (OutB w0 w8 v8 (acc ++ txtGs ah (l.take (j + 1)))) := Lib.hid (by
        rw [HTK.out, ← List.append_assoc, HACC.out, HEQ.out, txtG_8]
        have e : ACC ++ (blanksL ah ++ [115, 107, 105, 112, 59] ++ [10]) = L2 ++ [115, 107, 105, 112, 59] ++ [10] := by rw [← HL2.out]; simp
        rw [e, HLX.out]
        exact own8)
      have G8 := Lib.hid (Grew.link GX.out (Below.alloc (Below.refl _ _) (Nat.le_refl _) _) kp8)
      clear own8 kp8
      obtain ⟨A9, c9, rfl, _⟩ := O8.out.slice
      go_roundw
      case rel => exact ⟨j + 1, by omega, by go_num, A9, _, c9, rfl, Lib.hid ⟨rfl, O8.out, G8.out⟩⟩
      case measure => simp [intOf]; omega
    by_cases em' : k = 2 ∨ k = 3
    · have hk := em'
      obtain ⟨hok, dp, rfl, hrb, hre⟩ := right_many hk HRG.out
      have HOK := Lib.hid hok
      have htl := txt_len 6 t hok
      have hwl := wdL_len k
      unfold wdL at hwl
      rw [size_list] at hwl
      have hbk := txtGs_len hrb (ah := ah + 1) (by omega)
      have hek := txtGs_len hre (ah := ah + 1) (by omega)
      have hbl := blanksL_len ah
      have HNM : Hid ((wdB k ++ ⟨#[32]⟩ : ByteArray).size = (wdB k).size + 1) := Lib.hid (by simp only [ByteArray.size_append]; rfl)
      have HKM := Lib.hid hk
      have HK : Hid (k = 2 ∨ k = 3 ∨ k = 4 ∨ k = 5 ∨ k = 6 ∨ k = 7) := Lib.hid (by omega)
      have hsb : snodess body + snodess els + 1 ≤ snodes l[j] := by rw [HEQ.out, snodes]; omega
      have BB : Hid (∀ (w : World) (v : Value) (acc : List UInt8), OutB w0 w v acc → acc.length + 10 + 3000 * snodess body ≤ 50000000000 → Calls Tryd.prog 141 #[v, .slice bA body.length bc, .int .i64 (ah : Int)] w fun e w' => ∃ v', e = .returned v' ∧ OutB w0 w' v' (acc ++ blockL ah body) ∧ Grew v v' w w') := Lib.hid fun w v acc o h => spec_l04Block body VB.out dp ah bA bc w0 w v acc RB.out hb2 hb3 hrb (by omega) o h
      have BE : Hid (∀ (w : World) (v : Value) (acc : List UInt8), OutB w0 w v acc → acc.length + 10 + 3000 * snodess els ≤ 50000000000 → Calls Tryd.prog 141 #[v, .slice eA els.length ec, .int .i64 (ah : Int)] w fun e w' => ∃ v', e = .returned v' ∧ OutB w0 w' v' (acc ++ blockL ah els) ∧ Grew v v' w w') := Lib.hid fun w v acc o h => spec_l04Block els VE.out dp ah eA ec w0 w v acc RE.out he2 he3 hre (by omega) o h
      have hbk2 : (blockL ah body).length ≤ 3000 * snodess body + 40 := by unfold blockL; simp only [List.length_append, List.length_cons, List.length_nil]; omega
      have hek2 : (blockL ah els).length ≤ 3000 * snodess els + 40 := by unfold blockL; simp only [List.length_append, List.length_cons, List.length_nil]; omega
      clear hok hrb hre
      have q1 : (k == 1) = false := beq_eq_false_iff_ne.2 (by omega)
      have qk : (k == 2) = true ∨ ((k == 2) = false ∧ (k == 3) = true) := by
        rcases hk with rfl | rfl
        · exact .inl rfl
        · exact .inr ⟨rfl, rfl⟩
      clear hk
      have hc1 : ¬ (9223372036854775807 < (wdB k).size + 1) := by omega
      rcases qk with q2 | ⟨q2, q3⟩
      all_goals
        go_upto_region 12 with fail
        have oX := O2.out
        have gr := Grew.refl (.slice A2 L2.length c2) w2
        have KS : Hid (∀ w', KeepT 5 w2 w' → Below w0.heap.size w0 w' → KeepT 5 w2 w' ∧ Below w0.heap.size w0 w' ∧ w'.cell? ⟨g, 0, none⟩ = some (.int .i64 k) ∧ w'.cell? ⟨g, 2, none⟩ = some (.int .i64 tk) ∧ w'.cell? ⟨g, 3, none⟩ = some (.int .i64 tn) ∧ w'.cell? ⟨g, 4, none⟩ = some (.string ts) ∧ w'.cell? ⟨g, 5, none⟩ = some (.slice tA tm tc)) := Lib.hid (fun w' hk hb => ⟨hk, hb, KeepT.cellT hk SN.out y0, KeepT.cellT hk SN.out y2, KeepT.cellT hk SN.out y3, KeepT.cellT hk SN.out y4, KeepT.cellT hk SN.out y5⟩)
        go_region_held3 (fun w' => KeepT 5 w2 w' ∧ Below w0.heap.size w0 w' ∧ w'.cell? ⟨g, 0, none⟩ = some (.int .i64 k) ∧ w'.cell? ⟨g, 2, none⟩ = some (.int .i64 tk) ∧ w'.cell? ⟨g, 3, none⟩ = some (.int .i64 tn) ∧ w'.cell? ⟨g, 4, none⟩ = some (.string ts) ∧ w'.cell? ⟨g, 5, none⟩ = some (.slice tA tm tc))
          (first | exact KS.out _ (KeepT.trans' (Grew.keepB gr O2.out) (KeepT.of_below' (by repeat' (first | exact Below.refl _ _ | exact Nat.le_refl _ | (refine Below.alloc ?_ ?_ _) | (refine Below.setCell ?_ ?_ _) | (refine Below.drew ?_) | (refine below_drewN ?_ _) | assumption | (simp; done) | (simp; omega))))) (below_then2 oX.own (by repeat' (first | exact Below.refl _ _ | exact Nat.le_refl _ | (refine Below.alloc ?_ ?_ _) | (refine Below.setCell ?_ ?_ _) | (refine Below.drew ?_) | (refine below_drewN ?_ _) | assumption | (simp; done) | (simp; omega)))) | fail)
          (first
            | (go_at_call 140; refine (spec_l04Word k HK.out _).mono ?_; rintro e wY ⟨rfl, bY⟩; have gr := Grew.linkB gr (by repeat' (first | exact Below.refl _ _ | exact Nat.le_refl _ | (refine Below.alloc ?_ ?_ _) | (refine Below.setCell ?_ ?_ _) | (refine Below.drew ?_) | (refine below_drewN ?_ _) | assumption | (simp; done) | (simp; omega))) bY; have oX := (oX.below (by repeat' (first | exact Below.refl _ _ | exact Nat.le_refl _ | (refine Below.alloc ?_ ?_ _) | (refine Below.setCell ?_ ?_ _) | (refine Below.drew ?_) | (refine below_drewN ?_ _) | assumption | (simp; done) | (simp; omega)))).below bY; clear bY)
            | (refine step_outB_str (by rfl) _ _ (by rfl) (by rfl) (oX.below (by repeat' (first | exact Below.refl _ _ | exact Nat.le_refl _ | (refine Below.alloc ?_ ?_ _) | (refine Below.setCell ?_ ?_ _) | (refine Below.drew ?_) | (refine below_drewN ?_ _) | assumption | (simp; done) | (simp; omega)))) (wdB k ++ ⟨#[32]⟩) (by rfl) (by have h7 := HNM.out; (try simp only [List.length_append, List.length_cons, List.length_nil, size_list, blanksL_len]); omega) ?_; intro vY wY oY kY; have gr := Grew.link gr (by repeat' (first | exact Below.refl _ _ | exact Nat.le_refl _ | (refine Below.alloc ?_ ?_ _) | (refine Below.setCell ?_ ?_ _) | (refine Below.drew ?_) | (refine below_drewN ?_ _) | assumption | (simp; done) | (simp; omega))) kY; have oX := oY; clear oY kY)
            | (go_at_call 139; refine (spec_l03Say t 6 _ _ _ _ _ _ w0 _ _ _ HOK.out HT.out (oX.below (by repeat' (first | exact Below.refl _ _ | exact Nat.le_refl _ | (refine Below.alloc ?_ ?_ _) | (refine Below.setCell ?_ ?_ _) | (refine Below.drew ?_) | (refine below_drewN ?_ _) | assumption | (simp; done) | (simp; omega)))) (by have h7 := HNM.out; (try simp only [List.length_append, List.length_cons, List.length_nil, size_list, blanksL_len]); omega) (by omega)).mono ?_; rintro e wY ⟨vY, rfl, oY, kY⟩; have gr := Grew.link gr (by repeat' (first | exact Below.refl _ _ | exact Nat.le_refl _ | (refine Below.alloc ?_ ?_ _) | (refine Below.setCell ?_ ?_ _) | (refine Below.drew ?_) | (refine below_drewN ?_ _) | assumption | (simp; done) | (simp; omega))) kY; (try have li := (by first | exact Lies.grew li kY | exact Lies.grew (Lies.below li (Below.refl _ _).drew) kY | exact Lies.grew (Lies.new oX 59) kY | exact Lies.grew (Lies.below (Lies.new oX 59) (Below.refl _ _).drew) kY)); have oX := oY; clear oY kY)
            | fail)
        obtain ⟨L3, hL3⟩ : ∃ L, L2 ++ (wdB k ++ ⟨#[32]⟩ : ByteArray).data.toList ++ txtT t = L := ⟨_, rfl⟩
        have hl3 : L3.length ≤ L2.length + 2000 := by rw [← hL3]; simp only [List.length_append, size_list]; have := HNM.out; omega
        have HL3 := Lib.hid hL3
        rw [hL3] at oX
        clear hL3
        have O3 := Lib.hid oX
        have G3 := Lib.hid (G2.out.trans gr)
        have K3 := Lib.hid (Grew.keepB gr O2.out)
        clear oX gr
        rename World => w3
        obtain ⟨A3, c3, rfl, _⟩ := O3.out.slice
        have z6 := KeepT.cellT K3.out SN.out y6
        have z7 := KeepT.cellT K3.out SN.out y7
        have SN3 := Lib.hid (sane_keep SN.out (cell_lt y6) K3.out)
        go_wp2_with fail
        refine (BB.out _ _ _ O3.out (by omega)).mono ?_
        rintro e w4 ⟨v4, rfl, o4, k4⟩
        have O4 := Lib.hid o4
        have G4 := Lib.hid (G3.out.trans k4)
        have K4 := Lib.hid (Grew.keepB k4 O3.out)
        clear o4 k4
        have u7 := KeepT.cellT K4.out SN3.out z7
        have SN4 := Lib.hid (sane_keep SN3.out (cell_lt z7) K4.out)
        obtain ⟨L4, hL4⟩ : ∃ L, L3 ++ blockL ah body = L := ⟨_, rfl⟩
        have hl4 : L4.length ≤ L2.length + 2040 + 3000 * snodess body := by rw [← hL4, List.length_append]; omega
        have HL4 := Lib.hid hL4
        rw [hL4] at O4
        clear hL4
        obtain ⟨A4, c4, rfl, _⟩ := O4.out.slice
        cases hel : decide (0 < els.length) with
        | false =>
          have h0 : els = [] := List.eq_nil_of_length_eq_zero (by simpa using hel)
          have h0i : ¬ (0 : Int) < (els.length : Int) := by rw [h0]; decide
          have hlx : L4.length ≤ 56000000000 := by omega
          have OX := Lib.hid O4.out
          have GX := Lib.hid G4.out
          go_wp2_with (at_builtin; refine wpList_outB_some rfl _ _ rfl rfl (OX.out.alloc _) _ 1 1 [10] rfl (Rd.new _ 1 1 _ _ rfl) (by omega) ?_; intro v8 w8 own8 kp8)
          have O8 : Hid (OutB w0 w8 v8 (acc ++ txtGs ah (l.take (j + 1)))) := Lib.hid (by
            rw [HTK.out, ← List.append_assoc, HACC.out, HEQ.out, txtG_m HKM.out, h0, elseL]
            have e : ACC ++ (blanksL ah ++ (wdL k ++ [32]) ++ txtT t ++ ([32, 123, 10] ++ txtGs (ah + 1) body ++ blanksL ah ++ [125]) ++ (if ([] : List St).length = 0 then [] else [32, 101, 108, 115, 101] ++ ([32, 123, 10] ++ txtGs (ah + 1) [] ++ blanksL ah ++ [125])) ++ [10]) = L4 ++ [10] := by rw [← HL4.out, ← HL3.out, ← HL2.out]; unfold wdL blockL; simp
            rw [e]
            exact own8)
          have G8 := Lib.hid (Grew.link GX.out (Below.alloc (Below.refl _ _) (Nat.le_refl _) _) kp8)
          clear own8 kp8
          obtain ⟨A9, c9, rfl, _⟩ := O8.out.slice
          go_roundw
          case rel => exact ⟨j + 1, by omega, by go_num, A9, _, c9, rfl, Lib.hid ⟨rfl, O8.out, G8.out⟩⟩
          case measure => simp [intOf]; omega
        | true =>
          have h0 : 0 < els.length := by simpa using hel
          have h0i : (0 : Int) < (els.length : Int) := by omega
          go_upto_region 15 with fail
          have oX := O4.out
          have gr := Grew.refl (.slice A4 L4.length c4) w4
          have KS : Hid (∀ w', KeepT 5 w4 w' → Below w0.heap.size w0 w' → KeepT 5 w4 w' ∧ Below w0.heap.size w0 w' ∧ w'.cell? ⟨g, 7, none⟩ = some (.slice eA els.length ec)) := Lib.hid (fun w' hk hb => ⟨hk, hb, KeepT.cellT hk SN4.out u7⟩)
          go_region_held3 (fun w' => KeepT 5 w4 w' ∧ Below w0.heap.size w0 w' ∧ w'.cell? ⟨g, 7, none⟩ = some (.slice eA els.length ec))
            (first | exact KS.out _ (KeepT.trans' (Grew.keepB gr O4.out) (KeepT.of_below' (by repeat' (first | exact Below.refl _ _ | exact Nat.le_refl _ | (refine Below.alloc ?_ ?_ _) | (refine Below.setCell ?_ ?_ _) | (refine Below.drew ?_) | (refine below_drewN ?_ _) | assumption | (simp; done) | (simp; omega))))) (below_then2 oX.own (by repeat' (first | exact Below.refl _ _ | exact Nat.le_refl _ | (refine Below.alloc ?_ ?_ _) | (refine Below.setCell ?_ ?_ _) | (refine Below.drew ?_) | (refine below_drewN ?_ _) | assumption | (simp; done) | (simp; omega)))) | fail)
            (first
              | (refine step_outB_str (by rfl) _ _ (by rfl) (by rfl) (oX.below (by repeat' (first | exact Below.refl _ _ | exact Nat.le_refl _ | (refine Below.alloc ?_ ?_ _) | (refine Below.setCell ?_ ?_ _) | (refine Below.drew ?_) | (refine below_drewN ?_ _) | assumption | (simp; done) | (simp; omega)))) ⟨#[32, 101, 108, 115, 101]⟩ (by rfl) (by simp only [ByteArray.size, List.size_toArray, List.length_cons, List.length_nil]; omega) ?_; intro vY wY oY kY; have gr := Grew.link gr (by repeat' (first | exact Below.refl _ _ | exact Nat.le_refl _ | (refine Below.alloc ?_ ?_ _) | (refine Below.setCell ?_ ?_ _) | (refine Below.drew ?_) | (refine below_drewN ?_ _) | assumption | (simp; done) | (simp; omega))) kY; have oX := oY; clear oY kY)
              | (go_at_call 141; refine (BE.out _ _ _ (oX.below (by repeat' (first | exact Below.refl _ _ | exact Nat.le_refl _ | (refine Below.alloc ?_ ?_ _) | (refine Below.setCell ?_ ?_ _) | (refine Below.drew ?_) | (refine below_drewN ?_ _) | assumption | (simp; done) | (simp; omega)))) (by have h8 : (⟨#[32, 101, 108, 115, 101]⟩ : ByteArray).size = 5 := rfl; (try simp only [List.length_append, List.length_cons, List.length_nil, size_list]); omega)).mono ?_; rintro e wY ⟨vY, rfl, oY, kY⟩; have gr := Grew.link gr (by repeat' (first | exact Below.refl _ _ | exact Nat.le_refl _ | (refine Below.alloc ?_ ?_ _) | (refine Below.setCell ?_ ?_ _) | (refine Below.drew ?_) | (refine below_drewN ?_ _) | assumption | (simp; done) | (simp; omega))) kY; have oX := oY; clear oY kY)
              | fail)
          all_goals
           obtain ⟨LX, hLX⟩ : ∃ L, L4 ++ (⟨#[32, 101, 108, 115, 101]⟩ : ByteArray).data.toList ++ blockL ah els = L := ⟨_, rfl⟩
           have hlx : LX.length ≤ 56000000000 := by
             have h7 := HNM.out
             have h8 : (⟨#[32, 101, 108, 115, 101]⟩ : ByteArray).size = 5 := rfl
             rw [← hLX]
             (try simp only [List.length_append, List.length_cons, List.length_nil, size_list, blanksL_len])
             omega
           have HLX := Lib.hid hLX
           rw [hLX] at oX
           clear hLX
           have OX := Lib.hid oX
           have GX := Lib.hid (G4.out.trans gr)
           clear oX gr
           first | (obtain ⟨AX, cX, rfl, _⟩ := OX.out.slice) | skip
           go_wp2_with (at_builtin; refine wpList_outB_some rfl _ _ rfl rfl (OX.out.alloc _) _ 1 1 [10] rfl (Rd.new _ 1 1 _ _ rfl) (by omega) ?_; intro v8 w8 own8 kp8)
           have O8 : Hid (OutB w0 w8 v8 (acc ++ txtGs ah (l.take (j + 1)))) := Lib.hid (by
             rw [HTK.out, ← List.append_assoc, HACC.out, HEQ.out, txtG_m HKM.out, elseL, if_neg (show ¬ els.length = 0 by omega)]
             have e : ACC ++ (blanksL ah ++ (wdL k ++ [32]) ++ txtT t ++ ([32, 123, 10] ++ txtGs (ah + 1) body ++ blanksL ah ++ [125]) ++ ([32, 101, 108, 115, 101] ++ ([32, 123, 10] ++ txtGs (ah + 1) els ++ blanksL ah ++ [125])) ++ [10]) = L4 ++ (⟨#[32, 101, 108, 115, 101]⟩ : ByteArray).data.toList ++ blockL ah els ++ [10] := by rw [← HL4.out, ← HL3.out, ← HL2.out]; unfold wdL blockL; simp
             rw [e, HLX.out]
             exact own8)
           have G8 := Lib.hid (Grew.link GX.out (Below.alloc (Below.refl _ _) (Nat.le_refl _) _) kp8)
           clear own8 kp8
           obtain ⟨A9, c9, rfl, _⟩ := O8.out.slice
           go_roundw
           case rel => exact ⟨j + 1, by omega, by go_num, A9, _, c9, rfl, Lib.hid ⟨rfl, O8.out, G8.out⟩⟩
           case measure => simp [intOf]; omega
    have hk : k = 4 ∨ k = 5 ∨ k = 6 ∨ k = 7 := by omega
    clear hkk e1 e8 em'
    obtain ⟨hnm, rfl, rfl⟩ := shape_w hk HSH.out
    have hxs := name_len hnm
    rw [size_list] at hxs
    have hwl := wdL_len k
    unfold wdL at hwl
    rw [size_list] at hwl
    have HNM : Hid ((wdB k ++ ⟨#[32]⟩ ++ xs ++ ⟨#[59]⟩ : ByteArray).size = (wdB k).size + 1 + xs.size + 1) := Lib.hid (by simp only [ByteArray.size_append]; rfl)
    have HKW := Lib.hid hk
    have HK : Hid (k = 2 ∨ k = 3 ∨ k = 4 ∨ k = 5 ∨ k = 6 ∨ k = 7) := Lib.hid (by omega)
    clear hnm
    have q1 : (k == 1) = false := beq_eq_false_iff_ne.2 (by omega)
    have q2 : (k == 2) = false := beq_eq_false_iff_ne.2 (by omega)
    have q3 : (k == 3) = false := beq_eq_false_iff_ne.2 (by omega)
    have q8 : (k == 8) = false := beq_eq_false_iff_ne.2 (by omega)
    clear hk
    have hc1 : ¬ (9223372036854775807 < (wdB k).size + 1) := by omega
    have hc2 : ¬ (9223372036854775807 < (wdB k).size + 1 + xs.size) := by omega
    have hc3 : ¬ (9223372036854775807 < (wdB k).size + 1 + xs.size + 1) := by omega
    go_upto_region 7 with fail
    have oX := O2.out
    have gr := Grew.refl (.slice A2 L2.length c2) w2
    have KS : Hid (∀ w', KeepT 5 w2 w' → Below w0.heap.size w0 w' → KeepT 5 w2 w' ∧ Below w0.heap.size w0 w' ∧ w'.cell? ⟨g, 0, none⟩ = some (.int .i64 k) ∧ w'.cell? ⟨g, 1, none⟩ = some (.string xs)) := Lib.hid (fun w' hk hb => ⟨hk, hb, KeepT.cellT hk SN.out y0, KeepT.cellT hk SN.out y1⟩)
    go_region_held3 (fun w' => KeepT 5 w2 w' ∧ Below w0.heap.size w0 w' ∧ w'.cell? ⟨g, 0, none⟩ = some (.int .i64 k) ∧ w'.cell? ⟨g, 1, none⟩ = some (.string xs))
      (first | exact KS.out _ (KeepT.trans' (Grew.keepB gr O2.out) (KeepT.of_below' (by repeat' (first | exact Below.refl _ _ | exact Nat.le_refl _ | (refine Below.alloc ?_ ?_ _) | (refine Below.setCell ?_ ?_ _) | (refine Below.drew ?_) | (refine below_drewN ?_ _) | assumption | (simp; done) | (simp; omega))))) (below_then2 oX.own (by repeat' (first | exact Below.refl _ _ | exact Nat.le_refl _ | (refine Below.alloc ?_ ?_ _) | (refine Below.setCell ?_ ?_ _) | (refine Below.drew ?_) | (refine below_drewN ?_ _) | assumption | (simp; done) | (simp; omega)))) | fail)
      (first
        | (go_at_call 140; refine (spec_l04Word k HK.out _).mono ?_; rintro e wY ⟨rfl, bY⟩; have gr := Grew.linkB gr (by repeat' (first | exact Below.refl _ _ | exact Nat.le_refl _ | (refine Below.alloc ?_ ?_ _) | (refine Below.setCell ?_ ?_ _) | (refine Below.drew ?_) | (refine below_drewN ?_ _) | assumption | (simp; done) | (simp; omega))) bY; have oX := (oX.below (by repeat' (first | exact Below.refl _ _ | exact Nat.le_refl _ | (refine Below.alloc ?_ ?_ _) | (refine Below.setCell ?_ ?_ _) | (refine Below.drew ?_) | (refine below_drewN ?_ _) | assumption | (simp; done) | (simp; omega)))).below bY; clear bY)
        | (refine step_outB_str (by rfl) _ _ (by rfl) (by rfl) (oX.below (by repeat' (first | exact Below.refl _ _ | exact Nat.le_refl _ | (refine Below.alloc ?_ ?_ _) | (refine Below.setCell ?_ ?_ _) | (refine Below.drew ?_) | (refine below_drewN ?_ _) | assumption | (simp; done) | (simp; omega)))) (wdB k ++ ⟨#[32]⟩ ++ xs ++ ⟨#[59]⟩) (by rfl) (by have h7 := HNM.out; (try simp only [List.length_append, List.length_cons, List.length_nil, size_list, blanksL_len]); omega) ?_; intro vY wY oY kY; have gr := Grew.link gr (by repeat' (first | exact Below.refl _ _ | exact Nat.le_refl _ | (refine Below.alloc ?_ ?_ _) | (refine Below.setCell ?_ ?_ _) | (refine Below.drew ?_) | (refine below_drewN ?_ _) | assumption | (simp; done) | (simp; omega))) kY; have oX := oY; clear oY kY)
        | fail)
    all_goals
     obtain ⟨LX, hLX⟩ : ∃ L, L2 ++ ((wdB k ++ ⟨#[32]⟩ ++ xs ++ ⟨#[59]⟩) : ByteArray).data.toList = L := ⟨_, rfl⟩
     have hlx : LX.length ≤ 56000000000 := by
       have h7 := HNM.out
       have h8 : (⟨#[32, 101, 108, 115, 101]⟩ : ByteArray).size = 5 := rfl
       rw [← hLX]
       (try simp only [List.length_append, List.length_cons, List.length_nil, size_list, blanksL_len])
       omega
     have HLX := Lib.hid hLX
     rw [hLX] at oX
     clear hLX
     have OX := Lib.hid oX
     have GX := Lib.hid (G2.out.trans gr)
     clear oX gr
     first | (obtain ⟨AX, cX, rfl, _⟩ := OX.out.slice) | skip
     go_wp2_with (at_builtin; refine wpList_outB_some rfl _ _ rfl rfl (OX.out.alloc _) _ 1 1 [10] rfl (Rd.new _ 1 1 _ _ rfl) (by omega) ?_; intro v8 w8 own8 kp8)
     have O8 : Hid (OutB w0 w8 v8 (acc ++ txtGs ah (l.take (j + 1)))) := Lib.hid (by
       rw [HTK.out, ← List.append_assoc, HACC.out, HEQ.out, txtG_w HKW.out]
       have e : ACC ++ (blanksL ah ++ (wdL k ++ [32] ++ xs.data.toList ++ [59]) ++ [10]) = L2 ++ ((wdB k ++ ⟨#[32]⟩ ++ xs ++ ⟨#[59]⟩) : ByteArray).data.toList ++ [10] := by rw [← HL2.out]; unfold wdL; simp
       rw [e, HLX.out]
       exact own8)
     have G8 := Lib.hid (Grew.link GX.out (Below.alloc (Below.refl _ _) (Nat.le_refl _) _) kp8)
     clear own8 kp8
     obtain ⟨A9, c9, rfl, _⟩ := O8.out.slice
     go_roundw
     case rel => exact ⟨j + 1, by omega, by go_num, A9, _, c9, rfl, Lib.hid ⟨rfl, O8.out, G8.out⟩⟩
     case measure => simp [intOf]; omega
theorem spec_l04Say (l : List St) : SayC l := by
  induction hN : snodess l using Nat.strongRecOn generalizing l with
  | ind N ih =>
    refine spec_l04Say_at l fun g hg t k s body els heq => ?_
    have := snodess_le hg
    have hs : snodes g = 1 + snodess body + snodess els := by rw [heq, snodes]
    exact ⟨ih _ (by omega) body rfl, ih _ (by omega) els rfl⟩

/-- a builder in block b, made since w0, that holds the bytes l -/
def BldB (w0 w : World) (b : Nat) (l : List UInt8) : Prop :=
  ∃ p v, w.heap[b]? = some (.cells #[p, v] 109 (0, 0)) ∧ (p = .pointer none ∨ p = .pointer (some ⟨b, 0, none⟩)) ∧ OutB w0 w v l ∧ w0.heap.size ≤ b
/-- all but block b and the rows of bytes is as it was -/
abbrev KeepW (b : Nat) (w w' : World) : Prop := Keep (fun i => i ≠ b ∧ Sane 5 w i) w w'
theorem KeepW.trans' {b : Nat} {u v x : World} (h : KeepW b u v) (k : KeepW b v x) : KeepW b u x := Keep.trans h k (fun i hi hS => ⟨hS.1, fun cur e => hS.2 cur ((h.block i hi hS).symm.trans e)⟩)
theorem KeepW.of_below' {b : Nat} {w w' : World} (h : Below w.heap.size w w') : KeepW b w w' := Keep.of_below h
theorem KeepW.cellW {b : Nat} {w w' : World} (h : KeepW b w w') {p : Addr} {v : Value} (hb : p.block ≠ b) (hS : Sane 5 w p.block) (hv : w.cell? p = some v) : w'.cell? p = some v := h.cellEq ⟨hb, hS⟩ hv
theorem KeepW.sane {b : Nat} {w w' : World} {k : Nat} (h : KeepW b w w') (hb : k ≠ b) (hS : Sane 5 w k) (hk : k < w.heap.size) : Sane 5 w' k := fun cur e => hS cur ((h.block k hk ⟨hb, hS⟩).symm.trans e)
theorem BldB.lt {w0 w : World} {b : Nat} {l : List UInt8} (h : BldB w0 w b l) : b < w.heap.size := by
  obtain ⟨p, v, hb, _⟩ := h
  exact lt_of_block hb
theorem BldB.own {w0 w : World} {b : Nat} {l : List UInt8} (h : BldB w0 w b l) : Below w0.heap.size w0 w := by
  obtain ⟨p, v, _, _, ho, _⟩ := h
  exact ho.own
theorem BldB.below {w0 w w' : World} {b : Nat} {l : List UInt8} (h : BldB w0 w b l) (hb : Below w.heap.size w w') : BldB w0 w' b l := by
  obtain ⟨p, v, h1, h2, h3, h4⟩ := h
  exact ⟨p, v, (hb.block b (lt_of_block h1)).trans h1, h2, h3.below hb, h4⟩
theorem BldB.sane {w0 w : World} {b : Nat} {l : List UInt8} (h : BldB w0 w b l) : Sane 5 w b := by
  obtain ⟨p, v, h1, _⟩ := h
  exact sane_of h1 (by decide)
/-- 'var b strings.Builder' -/
theorem BldB.new (w : World) : BldB w (w.alloc (.cells #[.pointer none, .slice none 0 0] 109)) w.heap.size [] :=
  ⟨_, _, heap_alloc_new _ _, .inl rfl, ⟨World.ownsRow_nil _ _ _ _, Below.alloc (Below.refl _ _) (Nat.le_refl _) _⟩, Nat.le_refl _⟩
theorem BldB.is {w0 w : World} {b : Nat} {l : List UInt8} (h : BldB w0 w b l) : Lib.IsBuilder 109 5 w0.heap.size b (bv l) w := by
  obtain ⟨p, v, h1, h2, h3, h4⟩ := h
  have hne : v.ownBlock ≠ some b := Lib.ownBlock_ne (T := 109) h3.1 h1 (by decide)
  have h5 : w.ownsRow w0.heap.size 5 1 v (bv l).length (bv l) := by rw [bv_length]; exact h3.1
  rcases h2 with rfl | rfl
  · exact .inl ⟨h4, v, h1, h5, hne⟩
  · exact .inr ⟨h4, v, h1, h5, hne⟩
theorem lies_bld : liesAt Tryd.prog Tryd.prog.depth 109 (2 / Tryd.prog.cellsOf 109) 0 109 1 = true := by kernel_rfl
theorem size_bld : (Tryd.prog.info? 109).map (·.size) = some 2 := by kernel_rfl
set_option maxHeartbeats 1000000 in
set_option maxRecDepth 100000 in
theorem bld_check_used (b : Nat) (w : World) (h0 : w.cell? ⟨b, 0, none⟩ = some (.pointer (some ⟨b, 0, none⟩))) :
    Calls Tryd.prog 176 #[.pointer (some ⟨b, 0, none⟩)] w fun e w' => e = .returned (.tuple #[]) ∧ w' = w := by
  obtain ⟨j, hj, _⟩ := Option.map_eq_some_iff.1 size_bld
  go_enter Tryd.func176, Tryd.ntmps176
  go_wp2
  rw [Lib.run_neq_ptr_same w _ Tryd.underlying107 hj]
  go_wp2
  go_end0
  exact ⟨rfl, rfl⟩
set_option maxHeartbeats 1000000 in
set_option maxRecDepth 100000 in
theorem bld_check_fresh (b : Nat) (w : World) (h0 : w.cell? ⟨b, 0, none⟩ = some (.pointer none)) (hsh : w.shape? b = some (109, 2)) (hfz : w.frozen? ⟨b, 0, none⟩ = false) :
    Calls Tryd.prog 176 #[.pointer (some ⟨b, 0, none⟩)] w fun e w' => e = .returned (.tuple #[]) ∧ w' = w.setCell ⟨b, 0, none⟩ (.pointer (some ⟨b, 0, none⟩)) := by
  obtain ⟨j, hj, hjs⟩ := Option.map_eq_some_iff.1 size_bld
  go_enter Tryd.func176, Tryd.ntmps176
  go_wp2
  rw [Lib.run_to_unsafe w ⟨b, 0, none⟩ Tryd.underlying107 Tryd.underlying229 hj (by rw [hjs]; decide) hsh (Nat.zero_lt_succ 1)]
  simp only [Result.andThen]
  rw [Oper.upon_value]
  go_wp2
  rw [run_callFunc_extern Tryd.func214 (by kernel_rfl) (by kernel_rfl) (by kernel_rfl) (e := Extern.AbiNoEscape.same) (by kernel_rfl)]
  rw [Lib.run_noEscape]
  simp only [Result.andThen]
  rw [Oper.upon_value]
  go_wp2
  rw [Lib.run_from_unsafe w ⟨b, 0, none⟩ Tryd.underlying229 Tryd.underlying107 hj hsh lies_bld]
  simp only [Result.andThen]
  rw [Oper.upon_value]
  go_wp2
  go_end0
  exact ⟨rfl, rfl⟩
theorem OutB.setOther {w0 w : World} {v : Value} {l : List UInt8} (h : OutB w0 w v l) {b : Nat} (hb : w0.heap.size ≤ b) (hne : v.ownBlock ≠ some b) (o : Nat) (u : Value) : OutB w0 (w.setCell ⟨b, o, none⟩ u) v l :=
  ⟨h.1.kept (row := some b) ⟨rfl, rfl, rfl, by simp [World.setCell], fun k _ hk => Below.heap_setCell _ _ _ _ (fun e => hk (by simp [e]))⟩ (Or.inr hne), h.2.setCell (p := ⟨b, o, none⟩) hb _⟩
/-- behind copyCheck the builder holds its own address -/
theorem bld_check (b : Nat) (w0 w : World) (l : List UInt8) (h : BldB w0 w b l) :
    Calls Tryd.prog 176 #[.pointer (some ⟨b, 0, none⟩)] w fun e w' => e = .returned (.tuple #[]) ∧ (∃ v, w'.heap[b]? = some (.cells #[.pointer (some ⟨b, 0, none⟩), v] 109 (0, 0)) ∧ OutB w0 w' v l) ∧ KeepW b w w' := by
  obtain ⟨p, v, h1, h2, h3, h4⟩ := h
  have c0 : w.cell? ⟨b, 0, none⟩ = some p := by rw [Lib.cell_of_heap h1]; rfl
  rcases h2 with rfl | rfl
  · refine (bld_check_fresh b w c0 (by simp [World.shape?, h1]) (Lib.frozen_of_heap h1 0)).mono ?_
    rintro e w' ⟨rfl, rfl⟩
    have hne : v.ownBlock ≠ some b := Lib.ownBlock_ne (T := 109) h3.1 h1 (by decide)
    refine ⟨rfl, ⟨v, by simp [World.setCell, Array.getElem?_modify, h1], h3.setOther h4 hne _ _⟩, (Keep.refl _ _).setCell (fun hS => hS.1 rfl) _⟩
  · refine (bld_check_used b w c0).mono ?_
    rintro e w' ⟨rfl, rfl⟩
    exact ⟨rfl, ⟨v, h1, h3⟩, Keep.refl _ _⟩
set_option maxHeartbeats 2000000 in
set_option maxRecDepth 100000 in
theorem bld_write (b : Nat) (w0 w : World) (l : List UInt8) (s : ByteArray) (h : BldB w0 w b l) (hb : l.length + s.size ≤ 100000000000) :
    Calls Tryd.prog 112 #[.pointer (some ⟨b, 0, none⟩), .string s] w fun e w' => e = .returned (.tuple #[.int .i64 s.size, .nilIface]) ∧ BldB w0 w' b (l ++ s.data.toList) ∧ KeepW b w w' := by
  have h4 : w0.heap.size ≤ b := by obtain ⟨_, _, _, _, _, h4⟩ := h; exact h4
  have HB := Lib.hid h
  clear h
  go_enter Tryd.func112, Tryd.ntmps112
  go_wp2_with fail
  refine (bld_check b w0 _ l HB.out).mono ?_
  rintro e w1 ⟨rfl, ⟨v, hbk, own⟩, k1⟩
  have K1 := Lib.hid k1
  have O1 := Lib.hid own
  have HK := Lib.hid hbk
  have c0 : w1.cell? ⟨b, 0, none⟩ = some (.pointer (some ⟨b, 0, none⟩)) := by rw [Lib.cell_of_heap hbk]; rfl
  have c1 : w1.cell? ⟨b, 1, none⟩ = some v := by rw [Lib.cell_of_heap hbk]; rfl
  clear k1 own hbk
  go_wp2_with (at_builtin; refine wpList_outB_str rfl _ _ rfl rfl O1.out s rfl hb ?_; intro v2 w2 own2 kp2; have O2 := Lib.hid own2; have K2 := Lib.hid (Grew.keepB kp2 O1.out); have hne2 := Lib.ownBlock_ne (T := 109) O1.out.1 HK.out (by decide); have HK2 := Lib.hid ((kp2.keep.block b (lt_of_block HK.out) (fun e => hne2 e)).trans HK.out); clear own2 kp2 hne2; have d0 : w2.cell? ⟨b, 0, none⟩ = some (.pointer (some ⟨b, 0, none⟩)) := (by rw [Lib.cell_of_heap HK2.out]; rfl); have d1 : w2.cell? ⟨b, 1, none⟩ = some v := (by rw [Lib.cell_of_heap HK2.out]; rfl); have f1 : w2.frozen? ⟨b, 1, none⟩ = false := Lib.frozen_of_heap HK2.out 1; obtain ⟨A2, c2, rfl, _⟩ := O2.out.slice)
  go_ret2
  refine ⟨rfl, ⟨_, _, by simp [World.setCell, Array.getElem?_modify, HK2.out], .inr rfl, O2.out.setOther h4 (Lib.ownBlock_ne (T := 109) O2.out.1 HK2.out (by decide)) _ _, h4⟩, ?_⟩
  exact (KeepW.trans' K1.out (Keep.mono K2.out (fun _ _ h => h.2))).setCell (fun hS => hS.1 rfl) _

theorem repeat_blanks (n : Nat) : Lib.repeatL [32] n = blanksL n := by
  induction n with
  | zero => rfl
  | succ n ih => rw [Lib.repeatL, ih]; rfl
theorem impl_stmtWord (k : Int) (hk : k = 4 ∨ k = 5 ∨ k = 6 ∨ k = 7) (w : World) : Calls Tryd.prog 145 #[.int .i64 k] w fun e w' => e = .returned (.string (wdB k)) ∧ w = w' := by
  rcases hk with rfl | rfl | rfl | rfl
  all_goals
    go_enter Tryd.func145, Tryd.ntmps145
    go_wp2_with fail
    go_ret
    exact ⟨rfl, rfl⟩
theorem impl_stmtWordB (k : Int) (hk : k = 4 ∨ k = 5 ∨ k = 6 ∨ k = 7) (w : World) : Calls Tryd.prog 145 #[.int .i64 k] w fun e w' => e = .returned (.string (wdB k)) ∧ Below w.heap.size w w' :=
  (impl_stmtWord k hk w).mono fun _ _ ⟨h1, h2⟩ => ⟨h1, h2 ▸ Below.refl _ _⟩
abbrev WsC (l : List St) : Prop := ∀ (deep ah : Nat) (A : Option Addr) (c : Nat) (w0 w : World) (b : Nat) (acc : List UInt8), StRow AnyB w0 A l → l.length ≤ c → c ≤ maxLen → rightGs deep l = true → ah + deep ≤ 26 → BldB w0 w b acc → acc.length + 3000 * snodess l ≤ 50000000000 → TabW w0 →
  Calls Tryd.prog 69 #[.pointer (some ⟨b, 0, none⟩), .slice A l.length c, .int .i64 (ah : Int)] w fun e w' => e = .returned (.tuple #[]) ∧ BldB w0 w' b (acc ++ txtGs ah l) ∧ KeepW b w w'
set_option maxHeartbeats 6400000 in
set_option maxRecDepth 100000 in
theorem impl_writeStmts_at (l : List St) (ih : ∀ g ∈ l, ∀ t k s body els, g = .mk k s t body els → WsC body ∧ WsC els) : WsC l := by
  intro deep ah A c w0 w b acc row hl hc hrg hda bld hb tab
  have IH := Lib.hid ih
  have RW := Lib.hid row
  have BL := Lib.hid bld
  have HRL := Lib.hid hrg
  have TB := Lib.hid tab
  unfold maxLen at hc
  clear ih row bld hrg tab
  go_enter Tryd.func69, Tryd.ntmps69
  go_wp2_with fail
  refine (Tryd.strings_Repeat ⟨#[32]⟩ ah _ (by omega) (by simp only [ByteArray.size, List.size_toArray, List.length_cons, List.length_nil]; omega)).mono ?_
  rintro e w1 ⟨rfl, b1⟩
  obtain ⟨ahead, hah⟩ : ∃ s : ByteArray, ⟨(Lib.repeatL (⟨#[32]⟩ : ByteArray).data.toList ah).toArray⟩ = s := ⟨_, rfl⟩
  have HAH : Hid (ahead.data.toList = blanksL ah) := Lib.hid (by rw [← hah]; simp [repeat_blanks])
  have hasz : ahead.size ≤ ah := by rw [← size_list, HAH.out, blanksL_len]; omega
  have HCL : Hid ((ahead ++ ⟨#[125]⟩ : ByteArray).size ≤ 27) := Lib.hid (by rw [← size_list]; simp; omega)
  rw [hah]
  have BL1 := Lib.hid (BL.out.below b1)
  have KW1 := Lib.hid (KeepW.of_below' (b := b) b1)
  clear b1 hah
  go_wp2_with fail
  go_loopw [14] (fun iv wr => ∃ j : Nat, j ≤ l.length ∧ iv = .int .i64 (j : Int) ∧ Hid (BldB w0 wr b (acc ++ txtGs ah (l.take j)) ∧ KeepW b w wr)) (fun iv _ => l.length - (intOf iv).toNat)
  case atStart => exact ⟨0, Nat.zero_le _, rfl, Lib.hid ⟨by simpa [txtGs] using BL1.out, KW1.out⟩⟩
  case round =>
    obtain ⟨j, hj, rfl, HR⟩ := hrel
    obtain ⟨bl1, kw1⟩ := HR.out
    have B1 := Lib.hid bl1
    have K1 := Lib.hid kw1
    clear bl1 kw1 HR
    by_cases hlt : j < l.length
    case neg =>
      go_wp2_with fail
      refine bodyPost_end (results_none rfl _ _ _) rfl ?_
      have h1 := B1.out
      have h2 := K1.out
      rw [List.take_of_length_le (by omega)] at h1
      exact ⟨rfl, h1, h2⟩
    have hst := snodess_take l j hlt
    have hle := snodess_take_le l (j + 1)
    have htk : rightGs deep (l.take j) = true := by
      have e : rightGs deep l = (rightGs deep (l.take j) && rightGs deep (l.drop j)) := by rw [← rightGs_append, List.take_append_drop]
      have h := HRL.out
      rw [e, Bool.and_eq_true] at h
      exact h.1
    have hal := txtGs_len htk (ah := ah) hda
    obtain ⟨ACC, hACC⟩ : ∃ L, acc ++ txtGs ah (l.take j) = L := ⟨_, rfl⟩
    have hac : ACC.length ≤ acc.length + 3000 * snodess (l.take j) := by rw [← hACC, List.length_append]; omega
    have HACC := Lib.hid hACC
    rw [hACC] at B1
    clear hACC hal htk
    have HTK := Lib.hid (txtGs_take ah l j hlt)
    obtain ⟨rb', off, x, rfl, _, ⟨d0, d1, d2, d3, d4, d5, d6, d7⟩, hg⟩ := rd_stmt RW.out hlt
    obtain ⟨t, body, els, heq, _, _, ht, hb1, hb2, hb3, rb, he1, he2, he3, re⟩ := hg.inv
    have VB := Lib.hid (IH.out l[j] (List.getElem_mem hlt) t _ _ body els heq).1
    have VE := Lib.hid (IH.out l[j] (List.getElem_mem hlt) t _ _ body els heq).2
    have HEQ := Lib.hid heq
    have RB := Lib.hid rb
    have RE := Lib.hid re
    have HT := Lib.hid ht
    have hrj := rightGs_get HRL.out hlt
    rw [heq] at hrj
    have HRG := Lib.hid hrj
    have HSH := Lib.hid (right_shape hrj)
    obtain ⟨k, xs, tk, tn, ts, tA, tm, tc, bA, bm, bc, eA, em, ec⟩ := x
    simp only [V8.term] at hb1 he1 hb2 hb3 he2 he3 d0 d1 d2 d3 d4 d5 d6 d7 RB RE HEQ HT HRG HSH VB VE
    subst hb1 he1
    have hkk := shape_kind HSH.out
    have h0k : (0 : Int) ≤ (j : Int) := by omega
    have hown := B1.out.own
    replace d0 := cell_keep hown d0
    replace d1 := cell_keep hown d1
    replace d2 := cell_keep hown d2
    replace d3 := cell_keep hown d3
    replace d4 := cell_keep hown d4
    replace d5 := cell_keep hown d5
    replace d6 := cell_keep hown d6
    replace d7 := cell_keep hown d7
    have hsn1 : 1 ≤ snodes l[j] := by rw [HEQ.out, snodes]; omega
    clear heq hg rb re ht hown hrj
    go_wp2_with fail
    refine (bld_write b w0 _ ACC ahead (B1.out.below (Below.alloc (Below.refl _ _) (Nat.le_refl _) _)) (by omega)).mono ?_
    rintro e w2 ⟨rfl, b2, k2⟩
    have HB2 := Lib.hid b2
    have K2 := Lib.hid ((K1.out.trans' (KeepW.of_below' (Below.alloc (Below.refl _ _) (Nat.le_refl _) _))).trans' k2)
    have BX : BoxB (wr.alloc (.cells #[.int .i64 k, .string xs, .int .i64 tk, .int .i64 tn, .string ts, .slice tA tm tc, .slice bA body.length bc, .slice eA els.length ec] 104)) wr.heap.size [.int .i64 k, .string xs, .int .i64 tk, .int .i64 tn, .string ts, .slice tA tm tc, .slice bA body.length bc, .slice eA els.length ec] := BoxB.lit rfl
    have sn : Sane 5 (wr.alloc (.cells #[.int .i64 k, .string xs, .int .i64 tk, .int .i64 tn, .string ts, .slice tA tm tc, .slice bA body.length bc, .slice eA els.length ec] 104)) wr.heap.size := sane_new (by decide)
    have hgb : wr.heap.size ≠ b := by have := B1.out.lt; omega
    have y0 := KeepW.cellW k2 hgb sn (BX 0 _ rfl)
    have y1 := KeepW.cellW k2 hgb sn (BX 1 _ rfl)
    have y2 := KeepW.cellW k2 hgb sn (BX 2 _ rfl)
    have y3 := KeepW.cellW k2 hgb sn (BX 3 _ rfl)
    have y4 := KeepW.cellW k2 hgb sn (BX 4 _ rfl)
    have y5 := KeepW.cellW k2 hgb sn (BX 5 _ rfl)
    have y6 := KeepW.cellW k2 hgb sn (BX 6 _ rfl)
    have y7 := KeepW.cellW k2 hgb sn (BX 7 _ rfl)
    have SN := Lib.hid (KeepW.sane k2 hgb sn (by simp))
    have HGB := Lib.hid hgb
    obtain ⟨L2, hL2⟩ : ∃ L, ACC ++ blanksL ah = L := ⟨_, rfl⟩
    have hl2 : L2.length ≤ ACC.length + ah := by rw [← hL2, List.length_append, blanksL_len]; omega
    have HL2 := Lib.hid hL2
    have B2 : Hid (BldB w0 w2 b L2) := Lib.hid (by have := HB2.out; rwa [HAH.out, hL2] at this)
    clear hL2 b2 k2 BX sn d0 d1 d2 d3 d4 d5 d6 d7 hgb HB2
    generalize wr.heap.size = g at *
    by_cases e1 : k = 1
    · subst e1
      obtain ⟨hnm, hok, rfl, rfl⟩ := shape_1 HSH.out
      obtain ⟨X, hX⟩ : ∃ X : ByteArray, ⟨(txtR t).toArray⟩ = X := ⟨_, rfl⟩
      have HXL : Hid (X.data.toList = txtT t) := Lib.hid (by rw [← hX, txtR_yes hok])
      have hxl : X.size ≤ 1912 := by have h9 := txt_len 6 t hok; rw [← size_list, HXL.out]; omega
      have HTT : Hid (∀ W, Below w0.heap.size w0 W → Calls Tryd.prog 41 #[.agg #[.int .i64 tk, .int .i64 tn, .string ts, .slice tA tm tc]] W fun e w' => e = .returned (.string X) ∧ Below W.heap.size W w') := Lib.hid fun W hW => by rw [← hX]; exact impl_TermText t _ _ _ _ _ _ _ (HT.out.belowA hW) (TB.out.below hW)
      clear hX
      have hxs := name_len hnm
      rw [size_list] at hxs
      clear hnm hok
      have HSZ : Hid (((xs ++ ⟨#[32, 61, 32]⟩ ++ X ++ ⟨#[59]⟩) : ByteArray).size ≤ 2000) := Lib.hid (by rw [← size_list]; simp; omega)
      have hs1 : xs.size + 3 + X.size + 1 ≤ 2000 := by omega
      have hc1 : ¬ (9223372036854775807 < xs.size + 3) := by omega
      have hc2 : ¬ (9223372036854775807 < xs.size + 3 + X.size) := by omega
      have hc3 : ¬ (9223372036854775807 < xs.size + 3 + X.size + 1) := by omega
      go_upto_region 8 with fail
      have bl := B2.out
      have kp := Keep.refl (fun i => i ≠ b ∧ Sane 5 w2 i) w2
      have KS : Hid (∀ w', KeepW b w2 w' → KeepW b w2 w' ∧ w'.cell? ⟨g, 1, none⟩ = some (.string xs) ∧ w'.cell? ⟨g, 2, none⟩ = some (.int .i64 tk) ∧ w'.cell? ⟨g, 3, none⟩ = some (.int .i64 tn) ∧ w'.cell? ⟨g, 4, none⟩ = some (.string ts) ∧ w'.cell? ⟨g, 5, none⟩ = some (.slice tA tm tc)) := Lib.hid (fun w' hk => ⟨hk, KeepW.cellW hk HGB.out SN.out y1, KeepW.cellW hk HGB.out SN.out y2, KeepW.cellW hk HGB.out SN.out y3, KeepW.cellW hk HGB.out SN.out y4, KeepW.cellW hk HGB.out SN.out y5⟩)
      go_region_held3 (fun w' => KeepW b w2 w' ∧ w'.cell? ⟨g, 1, none⟩ = some (.string xs) ∧ w'.cell? ⟨g, 2, none⟩ = some (.int .i64 tk) ∧ w'.cell? ⟨g, 3, none⟩ = some (.int .i64 tn) ∧ w'.cell? ⟨g, 4, none⟩ = some (.string ts) ∧ w'.cell? ⟨g, 5, none⟩ = some (.slice tA tm tc))
        (first | exact KS.out _ (KeepW.trans' kp (KeepW.of_below' (by repeat' (first | exact Below.refl _ _ | exact Nat.le_refl _ | (refine Below.alloc ?_ ?_ _) | (refine Below.setCell ?_ ?_ _) | (refine Below.drew ?_) | (refine below_drewN ?_ _) | assumption | (simp; done) | (simp; omega))))) | fail)
        (first
          | (go_at_call 41; refine (HTT.out _ (below_then2 bl.own (by repeat' (first | exact Below.refl _ _ | exact Nat.le_refl _ | (refine Below.alloc ?_ ?_ _) | (refine Below.setCell ?_ ?_ _) | (refine Below.drew ?_) | (refine below_drewN ?_ _) | assumption | (simp; done) | (simp; omega))))).mono ?_; rintro e wY ⟨rfl, bY⟩; have kp := KeepW.trans' (KeepW.trans' kp (KeepW.of_below' (by repeat' (first | exact Below.refl _ _ | exact Nat.le_refl _ | (refine Below.alloc ?_ ?_ _) | (refine Below.setCell ?_ ?_ _) | (refine Below.drew ?_) | (refine below_drewN ?_ _) | assumption | (simp; done) | (simp; omega))))) (KeepW.of_below' bY); have bl := (bl.below (by repeat' (first | exact Below.refl _ _ | exact Nat.le_refl _ | (refine Below.alloc ?_ ?_ _) | (refine Below.setCell ?_ ?_ _) | (refine Below.drew ?_) | (refine below_drewN ?_ _) | assumption | (simp; done) | (simp; omega)))).below bY; clear bY)
          | (go_at_call 112; have le : L2.length + ((xs ++ ⟨#[32, 61, 32]⟩ ++ X ++ ⟨#[59]⟩) : ByteArray).size ≤ 100000000000 := (Nat.le_trans (Nat.add_le_add_left HSZ.out _) (by omega)); have t1 := bld_write b w0 _ L2 (xs ++ ⟨#[32, 61, 32]⟩ ++ X ++ ⟨#[59]⟩) bl le; refine t1.mono ?_; clear le t1; rintro e wY ⟨rfl, bZ, kZ⟩; have kp := KeepW.trans' (KeepW.trans' kp (KeepW.of_below' (by repeat' (first | exact Below.refl _ _ | exact Nat.le_refl _ | (refine Below.alloc ?_ ?_ _) | (refine Below.setCell ?_ ?_ _) | (refine Below.drew ?_) | (refine below_drewN ?_ _) | assumption | (simp; done) | (simp; omega))))) kZ; have bl := bZ; clear bZ kZ)
          | fail)
      all_goals
       obtain ⟨LX, hLX⟩ : ∃ L, L2 ++ ((xs ++ ⟨#[32, 61, 32]⟩ ++ X ++ ⟨#[59]⟩) : ByteArray).data.toList = L := ⟨_, rfl⟩
       have hlx : LX.length ≤ 56000000000 := by rw [← hLX]; (rw [List.length_append, size_list]; exact Nat.le_trans (Nat.add_le_add_left HSZ.out _) (by omega))
       have HLX := Lib.hid hLX
       rw [hLX] at bl
       clear hLX
       have BX := Lib.hid bl
       have KX := Lib.hid (K2.out.trans' kp)
       clear bl kp
       go_wp2_with fail
       refine (bld_write b w0 _ LX ⟨#[10]⟩ BX.out (by simp only [ByteArray.size, List.size_toArray, List.length_cons, List.length_nil]; omega)).mono ?_
       rintro e w8 ⟨rfl, b8, k8⟩
       have B8 : Hid (BldB w0 w8 b (acc ++ txtGs ah (l.take (j + 1)))) := Lib.hid (by
         rw [HTK.out, ← List.append_assoc, HACC.out, HEQ.out, txtG_1]
         have e : ACC ++ (blanksL ah ++ (xs.data.toList ++ [32, 61, 32]) ++ txtT t ++ [59] ++ [10]) = L2 ++ ((xs ++ ⟨#[32, 61, 32]⟩ ++ X ++ ⟨#[59]⟩) : ByteArray).data.toList ++ [10] := by rw [← HL2.out, ← HXL.out]; simp
         rw [e, HLX.out]
         exact b8)
       have K8 := Lib.hid (KX.out.trans' k8)
       clear b8 k8
       go_wp2_with fail
       go_roundw
       case rel => exact ⟨j + 1, by omega, by go_num, Lib.hid ⟨B8.out, K8.out⟩⟩
       case measure => simp [intOf]; omega
    by_cases e8 : k = 8
    · subst e8
      go_wp2_with fail
      refine (bld_write b w0 _ L2 ⟨#[115, 107, 105, 112, 59]⟩ B2.out (by simp only [ByteArray.size, List.size_toArray, List.length_cons, List.length_nil]; omega)).mono ?_
      rintro e w3 ⟨rfl, b3, k3⟩
      have bl : BldB w0 w3 b (L2 ++ [115, 107, 105, 112, 59]) := b3
      have kp := k3
      clear b3 k3
      obtain ⟨LX, hLX⟩ : ∃ L, L2 ++ [115, 107, 105, 112, 59] = L := ⟨_, rfl⟩
      have hlx : LX.length ≤ 56000000000 := by rw [← hLX]; ((try simp only [List.length_append, List.length_cons, List.length_nil]); omega)
      have HLX := Lib.hid hLX
      rw [hLX] at bl
      clear hLX
      have BX := Lib.hid bl
      have KX := Lib.hid (K2.out.trans' kp)
      clear bl kp
      go_wp2_with fail
      refine (bld_write b w0 _ LX ⟨#[10]⟩ BX.out (by simp only [ByteArray.size, List.size_toArray, List.length_cons, List.length_nil]; omega)).mono ?_
      rintro e w8 ⟨rfl, b8, k8⟩
      have B8 : Hid (BldB w0 w8 b (acc ++ txtGs ah (l.take (j + 1)))) := Lib.hid (by
        rw [HTK.out, ← List.append_assoc, HACC.out, HEQ.out, txtG_8]
        have e : ACC ++ (blanksL ah ++ [115, 107, 105, 112, 59] ++ [10]) = L2 ++ [115, 107, 105, 112, 59] ++ [10] := by rw [← HL2.out]; simp
        rw [e, HLX.out]
        exact b8)
      have K8 := Lib.hid (KX.out.trans' k8)
      clear b8 k8
      go_wp2_with fail
      go_roundw
      case rel => exact ⟨j + 1, by omega, by go_num, Lib.hid ⟨B8.out, K8.out⟩⟩
      case measure => simp [intOf]; omega
    by_cases e2 : k = 2
    · subst e2
      obtain ⟨hok, dp, rfl, hrb, hre⟩ := right_many (by omega) HRG.out
      obtain ⟨X, hX⟩ : ∃ X : ByteArray, ⟨(txtR t).toArray⟩ = X := ⟨_, rfl⟩
      have HXL : Hid (X.data.toList = txtT t) := Lib.hid (by rw [← hX, txtR_yes hok])
      have hxl : X.size ≤ 1912 := by have h9 := txt_len 6 t hok; rw [← size_list, HXL.out]; omega
      have HTT : Hid (∀ W, Below w0.heap.size w0 W → Calls Tryd.prog 41 #[.agg #[.int .i64 tk, .int .i64 tn, .string ts, .slice tA tm tc]] W fun e w' => e = .returned (.string X) ∧ Below W.heap.size W w') := Lib.hid fun W hW => by rw [← hX]; exact impl_TermText t _ _ _ _ _ _ _ (HT.out.belowA hW) (TB.out.below hW)
      clear hX
      have hbk := txtGs_len hrb (ah := ah + 1) (by omega)
      have hek := txtGs_len hre (ah := ah + 1) (by omega)
      have hsb : snodess body + snodess els + 1 ≤ snodes l[j] := by rw [HEQ.out, snodes]; omega
      have BB : Hid (∀ (w : World) (acc : List UInt8), BldB w0 w b acc → acc.length + 3000 * snodess body ≤ 50000000000 → Calls Tryd.prog 69 #[.pointer (some ⟨b, 0, none⟩), .slice bA body.length bc, .int .i64 ((ah : Int) + 1)] w fun e w' => e = .returned (.tuple #[]) ∧ BldB w0 w' b (acc ++ txtGs (ah + 1) body) ∧ KeepW b w w') := Lib.hid fun w acc o h => by
        have := VB.out dp (ah + 1) bA bc w0 w b acc RB.out hb2 hb3 hrb (by omega) o h TB.out
        rwa [show ((ah + 1 : Nat) : Int) = (ah : Int) + 1 from by omega] at this
      have BE : Hid (∀ (w : World) (acc : List UInt8), BldB w0 w b acc → acc.length + 3000 * snodess els ≤ 50000000000 → Calls Tryd.prog 69 #[.pointer (some ⟨b, 0, none⟩), .slice eA els.length ec, .int .i64 ((ah : Int) + 1)] w fun e w' => e = .returned (.tuple #[]) ∧ BldB w0 w' b (acc ++ txtGs (ah + 1) els) ∧ KeepW b w w') := Lib.hid fun w acc o h => by
        have := VE.out dp (ah + 1) eA ec w0 w b acc RE.out he2 he3 hre (by omega) o h TB.out
        rwa [show ((ah + 1 : Nat) : Int) = (ah : Int) + 1 from by omega] at this
      clear hok hrb hre
      have HSZ : Hid ((((⟨#[105, 102, 32]⟩ : ByteArray) ++ X ++ ⟨#[32, 123, 10]⟩) : ByteArray).size ≤ 2000) := Lib.hid (by rw [← size_list]; simp; omega)
      have hc1 : ¬ (9223372036854775807 < 3 + X.size) := by omega
      have hc2 : ¬ (9223372036854775807 < 3 + X.size + 3) := by omega
      go_wp2_with fail
      refine (HTT.out _ B2.out.own).mono ?_
      rintro e w3 ⟨rfl, b3⟩
      have B3 := Lib.hid (B2.out.below b3)
      have K3 := Lib.hid (KeepW.of_below' (b := b) b3)
      clear b3
      go_wp2_with fail
      have le : L2.length + (((⟨#[105, 102, 32]⟩ : ByteArray) ++ X ++ ⟨#[32, 123, 10]⟩) : ByteArray).size ≤ 100000000000 := Nat.le_trans (Nat.add_le_add_left HSZ.out _) (by omega)
      have t1 := bld_write b w0 _ L2 ((⟨#[105, 102, 32]⟩ : ByteArray) ++ X ++ ⟨#[32, 123, 10]⟩) B3.out le
      refine t1.mono ?_
      clear le t1
      rintro e w4 ⟨rfl, b4, k4⟩
      have K4 := Lib.hid (K3.out.trans' k4)
      have L4s : Hid ((L2 ++ (((⟨#[105, 102, 32]⟩ : ByteArray) ++ X ++ ⟨#[32, 123, 10]⟩) : ByteArray).data.toList).length ≤ L2.length + 2000) := Lib.hid (by rw [List.length_append, size_list]; exact Nat.add_le_add_left HSZ.out _)
      obtain ⟨L4, hL4⟩ : ∃ L, L2 ++ (((⟨#[105, 102, 32]⟩ : ByteArray) ++ X ++ ⟨#[32, 123, 10]⟩) : ByteArray).data.toList = L := ⟨_, rfl⟩
      rw [hL4] at b4 L4s
      have HL4 := Lib.hid hL4
      have hl4 := L4s.out
      have B4 := Lib.hid b4
      have z6 := KeepW.cellW K4.out HGB.out SN.out y6
      clear b4 k4 hL4 K3 B3
      go_wp2_with fail
      refine (BB.out _ _ B4.out (by omega)).mono ?_
      rintro e w5 ⟨rfl, b5, k5⟩
      have K5 := Lib.hid (K4.out.trans' k5)
      obtain ⟨L5, hL5⟩ : ∃ L, L4 ++ txtGs (ah + 1) body = L := ⟨_, rfl⟩
      have hl5 : L5.length ≤ L2.length + 2000 + 3000 * snodess body := by rw [← hL5, List.length_append]; omega
      rw [hL5] at b5
      have HL5 := Lib.hid hL5
      have B5 := Lib.hid b5
      clear b5 k5 hL5 z6
      go_wp2_with fail
      have le : L5.length + ((ahead ++ ⟨#[125]⟩) : ByteArray).size ≤ 100000000000 := Nat.le_trans (Nat.add_le_add_left HCL.out _) (by omega)
      have t1 := bld_write b w0 _ L5 (ahead ++ ⟨#[125]⟩) B5.out le
      refine t1.mono ?_
      clear le t1
      rintro e w6 ⟨rfl, b6, k6⟩
      have K6 := Lib.hid (K5.out.trans' k6)
      obtain ⟨L6, hL6⟩ : ∃ L, L5 ++ ((ahead ++ ⟨#[125]⟩) : ByteArray).data.toList = L := ⟨_, rfl⟩
      have hl6 : L6.length ≤ L2.length + 2030 + 3000 * snodess body := by rw [← hL6, List.length_append, size_list]; exact Nat.le_trans (Nat.add_le_add_left HCL.out _) (by omega)
      rw [hL6] at b6
      have HL6 := Lib.hid hL6
      have B6 := Lib.hid b6
      have z7 := KeepW.cellW K6.out HGB.out SN.out y7
      clear b6 k6 hL6
      cases hel : decide (0 < els.length) with
      | false =>
        have h0 : els = [] := List.eq_nil_of_length_eq_zero (by simpa using hel)
        have h0i : ¬ (0 : Int) < (els.length : Int) := by rw [h0]; decide
        have bl := B6.out
        have kp := K6.out
        obtain ⟨LX, hLX⟩ : ∃ L, L6 = L := ⟨_, rfl⟩
        have hlx : LX.length ≤ 56000000000 := by rw [← hLX]; ((try simp only [List.length_append, List.length_cons, List.length_nil]); omega)
        have HLX := Lib.hid hLX
        rw [hLX] at bl
        clear hLX
        have BX := Lib.hid bl
        have KX := Lib.hid (K2.out.trans' kp)
        clear bl kp
        go_wp2_with fail
        refine (bld_write b w0 _ LX ⟨#[10]⟩ BX.out (by simp only [ByteArray.size, List.size_toArray, List.length_cons, List.length_nil]; omega)).mono ?_
        rintro e w8 ⟨rfl, b8, k8⟩
        have B8 : Hid (BldB w0 w8 b (acc ++ txtGs ah (l.take (j + 1)))) := Lib.hid (by
          rw [HTK.out, ← List.append_assoc, HACC.out, HEQ.out, txtG_m (by omega), h0, elseL]
          have e : ACC ++ (blanksL ah ++ (wdL 2 ++ [32]) ++ txtT t ++ ([32, 123, 10] ++ txtGs (ah + 1) body ++ blanksL ah ++ [125]) ++ (if ([] : List St).length = 0 then [] else [32, 101, 108, 115, 101] ++ ([32, 123, 10] ++ txtGs (ah + 1) [] ++ blanksL ah ++ [125])) ++ [10]) = L6 ++ [10] := by rw [← HL6.out, ← HL5.out, ← HL4.out, ← HL2.out, ← HAH.out, ← HXL.out]; simp [wdL, wdB]
          rw [e, HLX.out]
          exact b8)
        have K8 := Lib.hid (KX.out.trans' k8)
        clear b8 k8
        go_wp2_with fail
        go_roundw
        case rel => exact ⟨j + 1, by omega, by go_num, Lib.hid ⟨B8.out, K8.out⟩⟩
        case measure => simp [intOf]; omega
      | true =>
        have h0 : 0 < els.length := by simpa using hel
        have h0i : (0 : Int) < (els.length : Int) := by omega
        go_wp2_with fail
        refine (bld_write b w0 _ L6 ⟨#[32, 101, 108, 115, 101, 32, 123, 10]⟩ B6.out (by simp only [ByteArray.size, List.size_toArray, List.length_cons, List.length_nil]; omega)).mono ?_
        rintro e w7 ⟨rfl, b7, k7⟩
        have K7 := Lib.hid (K6.out.trans' k7)
        obtain ⟨L7, hL7⟩ : ∃ L, L6 ++ (⟨#[32, 101, 108, 115, 101, 32, 123, 10]⟩ : ByteArray).data.toList = L := ⟨_, rfl⟩
        have hl7 : L7.length ≤ L2.length + 2040 + 3000 * snodess body := by rw [← hL7, List.length_append]; have h8 : (⟨#[32, 101, 108, 115, 101, 32, 123, 10]⟩ : ByteArray).data.toList.length = 8 := rfl; omega
        rw [hL7] at b7
        have HL7 := Lib.hid hL7
        have B7 := Lib.hid b7
        have u7 := KeepW.cellW K7.out HGB.out SN.out y7
        clear b7 k7 hL7 z7
        go_wp2_with fail
        refine (BE.out _ _ B7.out (by omega)).mono ?_
        rintro e w9 ⟨rfl, b9, k9⟩
        have K9 := Lib.hid (K7.out.trans' k9)
        obtain ⟨L9, hL9⟩ : ∃ L, L7 ++ txtGs (ah + 1) els = L := ⟨_, rfl⟩
        have hl9 : L9.length ≤ L2.length + 2040 + 3000 * snodess body + 3000 * snodess els := by rw [← hL9, List.length_append]; omega
        rw [hL9] at b9
        have HL9 := Lib.hid hL9
        have B9 := Lib.hid b9
        clear b9 k9 hL9 u7
        go_wp2_with fail
        have le : L9.length + ((ahead ++ ⟨#[125]⟩) : ByteArray).size ≤ 100000000000 := Nat.le_trans (Nat.add_le_add_left HCL.out _) (by omega)
        have t1 := bld_write b w0 _ L9 (ahead ++ ⟨#[125]⟩) B9.out le
        refine t1.mono ?_
        clear le t1
        rintro e w10 ⟨rfl, b10, k10⟩
        have bl := b10
        have kp := K9.out.trans' k10
        clear b10 k10
        obtain ⟨LX, hLX⟩ : ∃ L, L9 ++ ((ahead ++ ⟨#[125]⟩) : ByteArray).data.toList = L := ⟨_, rfl⟩
        have hlx : LX.length ≤ 56000000000 := by rw [← hLX]; (rw [List.length_append, size_list]; exact Nat.le_trans (Nat.add_le_add_left HCL.out _) (by omega))
        have HLX := Lib.hid hLX
        rw [hLX] at bl
        clear hLX
        have BX := Lib.hid bl
        have KX := Lib.hid (K2.out.trans' kp)
        clear bl kp
        go_wp2_with fail
        refine (bld_write b w0 _ LX ⟨#[10]⟩ BX.out (by simp only [ByteArray.size, List.size_toArray, List.length_cons, List.length_nil]; omega)).mono ?_
        rintro e w8 ⟨rfl, b8, k8⟩
        have B8 : Hid (BldB w0 w8 b (acc ++ txtGs ah (l.take (j + 1)))) := Lib.hid (by
          rw [HTK.out, ← List.append_assoc, HACC.out, HEQ.out, txtG_m (by omega), elseL, if_neg (show ¬ els.length = 0 by omega)]
          have e : ACC ++ (blanksL ah ++ (wdL 2 ++ [32]) ++ txtT t ++ ([32, 123, 10] ++ txtGs (ah + 1) body ++ blanksL ah ++ [125]) ++ ([32, 101, 108, 115, 101] ++ ([32, 123, 10] ++ txtGs (ah + 1) els ++ blanksL ah ++ [125])) ++ [10]) = L9 ++ ((ahead ++ ⟨#[125]⟩) : ByteArray).data.toList ++ [10] := by rw [← HL9.out, ← HL7.out, ← HL6.out, ← HL5.out, ← HL4.out, ← HL2.out, ← HAH.out, ← HXL.out]; simp [wdL, wdB]
          rw [e, HLX.out]
          exact b8)
        have K8 := Lib.hid (KX.out.trans' k8)
        clear b8 k8
        go_wp2_with fail
        go_roundw
        case rel => exact ⟨j + 1, by omega, by go_num, Lib.hid ⟨B8.out, K8.out⟩⟩
        case measure => simp [intOf]; omega
    by_cases e3 : k = 3
    · subst e3
      obtain ⟨hok, dp, rfl, hrb, hre⟩ := right_many (by omega) HRG.out
      obtain ⟨X, hX⟩ : ∃ X : ByteArray, ⟨(txtR t).toArray⟩ = X := ⟨_, rfl⟩
      have HXL : Hid (X.data.toList = txtT t) := Lib.hid (by rw [← hX, txtR_yes hok])
      have hxl : X.size ≤ 1912 := by have h9 := txt_len 6 t hok; rw [← size_list, HXL.out]; omega
      have HTT : Hid (∀ W, Below w0.heap.size w0 W → Calls Tryd.prog 41 #[.agg #[.int .i64 tk, .int .i64 tn, .string ts, .slice tA tm tc]] W fun e w' => e = .returned (.string X) ∧ Below W.heap.size W w') := Lib.hid fun W hW => by rw [← hX]; exact impl_TermText t _ _ _ _ _ _ _ (HT.out.belowA hW) (TB.out.below hW)
      clear hX
      have hbk := txtGs_len hrb (ah := ah + 1) (by omega)
      have hek := txtGs_len hre (ah := ah + 1) (by omega)
      have hsb : snodess body + snodess els + 1 ≤ snodes l[j] := by rw [HEQ.out, snodes]; omega
      have BB : Hid (∀ (w : World) (acc : List UInt8), BldB w0 w b acc → acc.length + 3000 * snodess body ≤ 50000000000 → Calls Tryd.prog 69 #[.pointer (some ⟨b, 0, none⟩), .slice bA body.length bc, .int .i64 ((ah : Int) + 1)] w fun e w' => e = .returned (.tuple #[]) ∧ BldB w0 w' b (acc ++ txtGs (ah + 1) body) ∧ KeepW b w w') := Lib.hid fun w acc o h => by
        have := VB.out dp (ah + 1) bA bc w0 w b acc RB.out hb2 hb3 hrb (by omega) o h TB.out
        rwa [show ((ah + 1 : Nat) : Int) = (ah : Int) + 1 from by omega] at this
      have BE : Hid (∀ (w : World) (acc : List UInt8), BldB w0 w b acc → acc.length + 3000 * snodess els ≤ 50000000000 → Calls Tryd.prog 69 #[.pointer (some ⟨b, 0, none⟩), .slice eA els.length ec, .int .i64 ((ah : Int) + 1)] w fun e w' => e = .returned (.tuple #[]) ∧ BldB w0 w' b (acc ++ txtGs (ah + 1) els) ∧ KeepW b w w') := Lib.hid fun w acc o h => by
        have := VE.out dp (ah + 1) eA ec w0 w b acc RE.out he2 he3 hre (by omega) o h TB.out
        rwa [show ((ah + 1 : Nat) : Int) = (ah : Int) + 1 from by omega] at this
      clear hok hrb hre
      have HSZ : Hid ((((⟨#[119, 104, 105, 108, 101, 32]⟩ : ByteArray) ++ X ++ ⟨#[32, 123, 10]⟩) : ByteArray).size ≤ 2000) := Lib.hid (by rw [← size_list]; simp; omega)
      have hc1 : ¬ (9223372036854775807 < 6 + X.size) := by omega
      have hc2 : ¬ (9223372036854775807 < 6 + X.size + 3) := by omega
      go_wp2_with fail
      refine (HTT.out _ B2.out.own).mono ?_
      rintro e w3 ⟨rfl, b3⟩
      have B3 := Lib.hid (B2.out.below b3)
      have K3 := Lib.hid (KeepW.of_below' (b := b) b3)
      clear b3
      go_wp2_with fail
      have le : L2.length + (((⟨#[119, 104, 105, 108, 101, 32]⟩ : ByteArray) ++ X ++ ⟨#[32, 123, 10]⟩) : ByteArray).size ≤ 100000000000 := Nat.le_trans (Nat.add_le_add_left HSZ.out _) (by omega)
      have t1 := bld_write b w0 _ L2 ((⟨#[119, 104, 105, 108, 101, 32]⟩ : ByteArray) ++ X ++ ⟨#[32, 123, 10]⟩) B3.out le
      refine t1.mono ?_
      clear le t1
      rintro e w4 ⟨rfl, b4, k4⟩
      have K4 := Lib.hid (K3.out.trans' k4)
      have L4s : Hid ((L2 ++ (((⟨#[119, 104, 105, 108, 101, 32]⟩ : ByteArray) ++ X ++ ⟨#[32, 123, 10]⟩) : ByteArray).data.toList).length ≤ L2.length + 2000) := Lib.hid (by rw [List.length_append, size_list]; exact Nat.add_le_add_left HSZ.out _)
      obtain ⟨L4, hL4⟩ : ∃ L, L2 ++ (((⟨#[119, 104, 105, 108, 101, 32]⟩ : ByteArray) ++ X ++ ⟨#[32, 123, 10]⟩) : ByteArray).data.toList = L := ⟨_, rfl⟩
      rw [hL4] at b4 L4s
      have HL4 := Lib.hid hL4
      have hl4 := L4s.out
      have B4 := Lib.hid b4
      have z6 := KeepW.cellW K4.out HGB.out SN.out y6
      clear b4 k4 hL4 K3 B3
      go_wp2_with fail
      refine (BB.out _ _ B4.out (by omega)).mono ?_
      rintro e w5 ⟨rfl, b5, k5⟩
      have K5 := Lib.hid (K4.out.trans' k5)
      obtain ⟨L5, hL5⟩ : ∃ L, L4 ++ txtGs (ah + 1) body = L := ⟨_, rfl⟩
      have hl5 : L5.length ≤ L2.length + 2000 + 3000 * snodess body := by rw [← hL5, List.length_append]; omega
      rw [hL5] at b5
      have HL5 := Lib.hid hL5
      have B5 := Lib.hid b5
      clear b5 k5 hL5 z6
      go_wp2_with fail
      have le : L5.length + ((ahead ++ ⟨#[125]⟩) : ByteArray).size ≤ 100000000000 := Nat.le_trans (Nat.add_le_add_left HCL.out _) (by omega)
      have t1 := bld_write b w0 _ L5 (ahead ++ ⟨#[125]⟩) B5.out le
      refine t1.mono ?_
      clear le t1
      rintro e w6 ⟨rfl, b6, k6⟩
      have K6 := Lib.hid (K5.out.trans' k6)
      obtain ⟨L6, hL6⟩ : ∃ L, L5 ++ ((ahead ++ ⟨#[125]⟩) : ByteArray).data.toList = L := ⟨_, rfl⟩
      have hl6 : L6.length ≤ L2.length + 2030 + 3000 * snodess body := by rw [← hL6, List.length_append, size_list]; exact Nat.le_trans (Nat.add_le_add_left HCL.out _) (by omega)
      rw [hL6] at b6
      have HL6 := Lib.hid hL6
      have B6 := Lib.hid b6
      have z7 := KeepW.cellW K6.out HGB.out SN.out y7
      clear b6 k6 hL6
      cases hel : decide (0 < els.length) with
      | false =>
        have h0 : els = [] := List.eq_nil_of_length_eq_zero (by simpa using hel)
        have h0i : ¬ (0 : Int) < (els.length : Int) := by rw [h0]; decide
        have bl := B6.out
        have kp := K6.out
        obtain ⟨LX, hLX⟩ : ∃ L, L6 = L := ⟨_, rfl⟩
        have hlx : LX.length ≤ 56000000000 := by rw [← hLX]; ((try simp only [List.length_append, List.length_cons, List.length_nil]); omega)
        have HLX := Lib.hid hLX
        rw [hLX] at bl
        clear hLX
        have BX := Lib.hid bl
        have KX := Lib.hid (K2.out.trans' kp)
        clear bl kp
        go_wp2_with fail
        refine (bld_write b w0 _ LX ⟨#[10]⟩ BX.out (by simp only [ByteArray.size, List.size_toArray, List.length_cons, List.length_nil]; omega)).mono ?_
        rintro e w8 ⟨rfl, b8, k8⟩
        have B8 : Hid (BldB w0 w8 b (acc ++ txtGs ah (l.take (j + 1)))) := Lib.hid (by
          rw [HTK.out, ← List.append_assoc, HACC.out, HEQ.out, txtG_m (by omega), h0, elseL]
          have e : ACC ++ (blanksL ah ++ (wdL 3 ++ [32]) ++ txtT t ++ ([32, 123, 10] ++ txtGs (ah + 1) body ++ blanksL ah ++ [125]) ++ (if ([] : List St).length = 0 then [] else [32, 101, 108, 115, 101] ++ ([32, 123, 10] ++ txtGs (ah + 1) [] ++ blanksL ah ++ [125])) ++ [10]) = L6 ++ [10] := by rw [← HL6.out, ← HL5.out, ← HL4.out, ← HL2.out, ← HAH.out, ← HXL.out]; simp [wdL, wdB]
          rw [e, HLX.out]
          exact b8)
        have K8 := Lib.hid (KX.out.trans' k8)
        clear b8 k8
        go_wp2_with fail
        go_roundw
        case rel => exact ⟨j + 1, by omega, by go_num, Lib.hid ⟨B8.out, K8.out⟩⟩
        case measure => simp [intOf]; omega
      | true =>
        have h0 : 0 < els.length := by simpa using hel
        have h0i : (0 : Int) < (els.length : Int) := by omega
        go_wp2_with fail
        refine (bld_write b w0 _ L6 ⟨#[32, 101, 108, 115, 101, 32, 123, 10]⟩ B6.out (by simp only [ByteArray.size, List.size_toArray, List.length_cons, List.length_nil]; omega)).mono ?_
        rintro e w7 ⟨rfl, b7, k7⟩
        have K7 := Lib.hid (K6.out.trans' k7)
        obtain ⟨L7, hL7⟩ : ∃ L, L6 ++ (⟨#[32, 101, 108, 115, 101, 32, 123, 10]⟩ : ByteArray).data.toList = L := ⟨_, rfl⟩
        have hl7 : L7.length ≤ L2.length + 2040 + 3000 * snodess body := by rw [← hL7, List.length_append]; have h8 : (⟨#[32, 101, 108, 115, 101, 32, 123, 10]⟩ : ByteArray).data.toList.length = 8 := rfl; omega
        rw [hL7] at b7
        have HL7 := Lib.hid hL7
        have B7 := Lib.hid b7
        have u7 := KeepW.cellW K7.out HGB.out SN.out y7
        clear b7 k7 hL7 z7
        go_wp2_with fail
        refine (BE.out _ _ B7.out (by omega)).mono ?_
        rintro e w9 ⟨rfl, b9, k9⟩
        have K9 := Lib.hid (K7.out.trans' k9)
        obtain ⟨L9, hL9⟩ : ∃ L, L7 ++ txtGs (ah + 1) els = L := ⟨_, rfl⟩
        have hl9 : L9.length ≤ L2.length + 2040 + 3000 * snodess body + 3000 * snodess els := by rw [← hL9, List.length_append]; omega
        rw [hL9] at b9
        have HL9 := Lib.hid hL9
        have B9 := Lib.hid b9
        clear b9 k9 hL9 u7
        go_wp2_with fail
        have le : L9.length + ((ahead ++ ⟨#[125]⟩) : ByteArray).size ≤ 100000000000 := Nat.le_trans (Nat.add_le_add_left HCL.out _) (by omega)
        have t1 := bld_write b w0 _ L9 (ahead ++ ⟨#[125]⟩) B9.out le
        refine t1.mono ?_
        clear le t1
        rintro e w10 ⟨rfl, b10, k10⟩
        have bl := b10
        have kp := K9.out.trans' k10
        clear b10 k10
        obtain ⟨LX, hLX⟩ : ∃ L, L9 ++ ((ahead ++ ⟨#[125]⟩) : ByteArray).data.toList = L := ⟨_, rfl⟩
        have hlx : LX.length ≤ 56000000000 := by rw [← hLX]; (rw [List.length_append, size_list]; exact Nat.le_trans (Nat.add_le_add_left HCL.out _) (by omega))
        have HLX := Lib.hid hLX
        rw [hLX] at bl
        clear hLX
        have BX := Lib.hid bl
        have KX := Lib.hid (K2.out.trans' kp)
        clear bl kp
        go_wp2_with fail
        refine (bld_write b w0 _ LX ⟨#[10]⟩ BX.out (by simp only [ByteArray.size, List.size_toArray, List.length_cons, List.length_nil]; omega)).mono ?_
        rintro e w8 ⟨rfl, b8, k8⟩
        have B8 : Hid (BldB w0 w8 b (acc ++ txtGs ah (l.take (j + 1)))) := Lib.hid (by
          rw [HTK.out, ← List.append_assoc, HACC.out, HEQ.out, txtG_m (by omega), elseL, if_neg (show ¬ els.length = 0 by omega)]
          have e : ACC ++ (blanksL ah ++ (wdL 3 ++ [32]) ++ txtT t ++ ([32, 123, 10] ++ txtGs (ah + 1) body ++ blanksL ah ++ [125]) ++ ([32, 101, 108, 115, 101] ++ ([32, 123, 10] ++ txtGs (ah + 1) els ++ blanksL ah ++ [125])) ++ [10]) = L9 ++ ((ahead ++ ⟨#[125]⟩) : ByteArray).data.toList ++ [10] := by rw [← HL9.out, ← HL7.out, ← HL6.out, ← HL5.out, ← HL4.out, ← HL2.out, ← HAH.out, ← HXL.out]; simp [wdL, wdB]
          rw [e, HLX.out]
          exact b8)
        have K8 := Lib.hid (KX.out.trans' k8)
        clear b8 k8
        go_wp2_with fail
        go_roundw
        case rel => exact ⟨j + 1, by omega, by go_num, Lib.hid ⟨B8.out, K8.out⟩⟩
        case measure => simp [intOf]; omega
    have hk : k = 4 ∨ k = 5 ∨ k = 6 ∨ k = 7 := by omega
    clear hkk e1 e8 e2 e3
    obtain ⟨hnm, rfl, rfl⟩ := shape_w hk HSH.out
    have hxs := name_len hnm
    rw [size_list] at hxs
    have hwl := wdL_len k
    unfold wdL at hwl
    rw [size_list] at hwl
    have HKW := Lib.hid hk
    clear hnm
    have q1 : (k == 1) = false := beq_eq_false_iff_ne.2 (by omega)
    have q2 : (k == 2) = false := beq_eq_false_iff_ne.2 (by omega)
    have q3 : (k == 3) = false := beq_eq_false_iff_ne.2 (by omega)
    have q8 : (k == 8) = false := beq_eq_false_iff_ne.2 (by omega)
    clear hk
    have HSZ : Hid (((wdB k ++ ⟨#[32]⟩ ++ xs ++ ⟨#[59]⟩) : ByteArray).size ≤ 2000) := Lib.hid (by rw [← size_list]; simp; omega)
    have hs1 : (wdB k).size + 1 + xs.size + 1 ≤ 2000 := by omega
    have hc1 : ¬ (9223372036854775807 < (wdB k).size + 1) := by omega
    have hc2 : ¬ (9223372036854775807 < (wdB k).size + 1 + xs.size) := by omega
    have hc3 : ¬ (9223372036854775807 < (wdB k).size + 1 + xs.size + 1) := by omega
    go_upto_region 6 with fail
    have bl := B2.out
    have kp := Keep.refl (fun i => i ≠ b ∧ Sane 5 w2 i) w2
    have KS : Hid (∀ w', KeepW b w2 w' → KeepW b w2 w' ∧ w'.cell? ⟨g, 0, none⟩ = some (.int .i64 k) ∧ w'.cell? ⟨g, 1, none⟩ = some (.string xs)) := Lib.hid (fun w' hk => ⟨hk, KeepW.cellW hk HGB.out SN.out y0, KeepW.cellW hk HGB.out SN.out y1⟩)
    go_region_held3 (fun w' => KeepW b w2 w' ∧ w'.cell? ⟨g, 0, none⟩ = some (.int .i64 k) ∧ w'.cell? ⟨g, 1, none⟩ = some (.string xs))
      (first | exact KS.out _ (KeepW.trans' kp (KeepW.of_below' (by repeat' (first | exact Below.refl _ _ | exact Nat.le_refl _ | (refine Below.alloc ?_ ?_ _) | (refine Below.setCell ?_ ?_ _) | (refine Below.drew ?_) | (refine below_drewN ?_ _) | assumption | (simp; done) | (simp; omega))))) | fail)
      (first
        | (go_at_call 145; refine (impl_stmtWordB k HKW.out _).mono ?_; rintro e wY ⟨rfl, bY⟩; have kp := KeepW.trans' (KeepW.trans' kp (KeepW.of_below' (by repeat' (first | exact Below.refl _ _ | exact Nat.le_refl _ | (refine Below.alloc ?_ ?_ _) | (refine Below.setCell ?_ ?_ _) | (refine Below.drew ?_) | (refine below_drewN ?_ _) | assumption | (simp; done) | (simp; omega))))) (KeepW.of_below' bY); have bl := (bl.below (by repeat' (first | exact Below.refl _ _ | exact Nat.le_refl _ | (refine Below.alloc ?_ ?_ _) | (refine Below.setCell ?_ ?_ _) | (refine Below.drew ?_) | (refine below_drewN ?_ _) | assumption | (simp; done) | (simp; omega)))).below bY; clear bY)
        | (go_at_call 112; have le : L2.length + ((wdB k ++ ⟨#[32]⟩ ++ xs ++ ⟨#[59]⟩) : ByteArray).size ≤ 100000000000 := (Nat.le_trans (Nat.add_le_add_left HSZ.out _) (by omega)); have t1 := bld_write b w0 _ L2 (wdB k ++ ⟨#[32]⟩ ++ xs ++ ⟨#[59]⟩) bl le; refine t1.mono ?_; clear le t1; rintro e wY ⟨rfl, bZ, kZ⟩; have kp := KeepW.trans' (KeepW.trans' kp (KeepW.of_below' (by repeat' (first | exact Below.refl _ _ | exact Nat.le_refl _ | (refine Below.alloc ?_ ?_ _) | (refine Below.setCell ?_ ?_ _) | (refine Below.drew ?_) | (refine below_drewN ?_ _) | assumption | (simp; done) | (simp; omega))))) kZ; have bl := bZ; clear bZ kZ)
        | fail)
    all_goals
     obtain ⟨LX, hLX⟩ : ∃ L, L2 ++ ((wdB k ++ ⟨#[32]⟩ ++ xs ++ ⟨#[59]⟩) : ByteArray).data.toList = L := ⟨_, rfl⟩
     have hlx : LX.length ≤ 56000000000 := by rw [← hLX]; (rw [List.length_append, size_list]; exact Nat.le_trans (Nat.add_le_add_left HSZ.out _) (by omega))
     have HLX := Lib.hid hLX
     rw [hLX] at bl
     clear hLX
     have BX := Lib.hid bl
     have KX := Lib.hid (K2.out.trans' kp)
     clear bl kp
     go_wp2_with fail
     refine (bld_write b w0 _ LX ⟨#[10]⟩ BX.out (by simp only [ByteArray.size, List.size_toArray, List.length_cons, List.length_nil]; omega)).mono ?_
     rintro e w8 ⟨rfl, b8, k8⟩
     have B8 : Hid (BldB w0 w8 b (acc ++ txtGs ah (l.take (j + 1)))) := Lib.hid (by
       rw [HTK.out, ← List.append_assoc, HACC.out, HEQ.out, txtG_w HKW.out]
       have e : ACC ++ (blanksL ah ++ (wdL k ++ [32] ++ xs.data.toList ++ [59]) ++ [10]) = L2 ++ ((wdB k ++ ⟨#[32]⟩ ++ xs ++ ⟨#[59]⟩) : ByteArray).data.toList ++ [10] := by rw [← HL2.out]; unfold wdL; simp
       rw [e, HLX.out]
       exact b8)
     have K8 := Lib.hid (KX.out.trans' k8)
     clear b8 k8
     go_wp2_with fail
     go_roundw
     case rel => exact ⟨j + 1, by omega, by go_num, Lib.hid ⟨B8.out, K8.out⟩⟩
     case measure => simp [intOf]; omega
theorem impl_writeStmts (l : List St) : WsC l := by
  induction hN : snodess l using Nat.strongRecOn generalizing l with
  | ind N ih =>
    refine impl_writeStmts_at l fun g hg t k s body els e => ?_
    have := snodess_le hg
    have h2 : snodes g = 1 + snodess body + snodess els := by rw [e, snodes]
    exact ⟨ih _ (by omega) body rfl, ih _ (by omega) els rfl⟩

theorem in_litT {x a b : Int} {r : Bool} (h : inB x a b = r) (w : World) : Calls Tryd.prog 64 #[.int .i64 x, .int .i64 a, .int .i64 b] w fun e w' => e = .returned (.bool r) ∧ w = w' := by
  subst h
  exact spec_l01In x a b w
theorem inS_yes {a b c : Int} (h1 : b ≤ a) (h2 : a ≤ c) : inB a b c = true := by unfold inB; rw [decide_eq_true h1, decide_eq_true h2]; rfl
theorem inS_no {a b c : Int} (h : ¬ (b ≤ a ∧ a ≤ c)) : inB a b c = false := by
  unfold inB
  by_cases h1 : b ≤ a
  · rw [decide_no (by omega : ¬ a ≤ c), Bool.and_false]
  · rw [decide_no h1]; rfl
theorem inS_dest {a b c : Int} (h : inB a b c = true) : b ≤ a ∧ a ≤ c := by
  unfold inB at h
  simp only [Bool.and_eq_true, decide_eq_true_eq] at h
  exact h
noncomputable def okGs : List St → Bool
  | [] => true
  | g :: r => fitGs 6 60 [g] && okGs r
theorem okGs_append (l r : List St) : okGs (l ++ r) = (okGs l && okGs r) := by
  induction l with
  | nil => simp [okGs]
  | cons t l ih => rw [List.cons_append, okGs, okGs, ih, Bool.and_assoc]
theorem okGs_take (l : List St) (j : Nat) (h : j < l.length) : okGs (l.take (j + 1)) = (okGs (l.take j) && fitGs 6 60 [l[j]]) := by
  have e : l.take (j + 1) = l.take j ++ [l[j]] := List.take_succ_eq_append_getElem h
  rw [e, okGs_append]; simp [okGs]
theorem okGs_no (l : List St) (j : Nat) (h : j < l.length) (hn : fitGs 6 60 [l[j]] = false) : okGs l = false := by
  have e : okGs l = (okGs (l.take j) && okGs (l.drop j)) := by rw [← okGs_append, List.take_append_drop]
  rw [e, List.drop_eq_getElem_cons h, okGs, hn]; simp
theorem okGs_right {l : List St} (h : okGs l = true) : rightGs 6 l = true := by
  induction l with
  | nil => simp [rightGs]
  | cons g r ih =>
    rw [okGs, Bool.and_eq_true] at h
    have h1 := (fit_inv h.1).1
    rw [rightGs, rightGs, Bool.and_true] at h1
    rw [rightGs, h1, ih h.2]; rfl
noncomputable def textR (l : List St) (a : Int) : List UInt8 := if (inB a 0 20 && okGs l) = true then txtGs a.toNat l else []
theorem textR_no1 {l : List St} {a : Int} (h : inB a 0 20 = false) : textR l a = [] := by unfold textR; rw [h]; rfl
theorem textR_no2 {l : List St} {a : Int} (h : okGs l = false) : textR l a = [] := by unfold textR; rw [h, Bool.and_false]; rfl
theorem textR_yes {l : List St} {n : Nat} (hn : n ≤ 20) (h : okGs l = true) : textR l (n : Int) = txtGs n l := by
  unfold textR
  rw [h, inS_yes (by omega) (by omega), Int.toNat_natCast]; rfl
set_option maxHeartbeats 1600000 in
theorem spec_StmtsText (l : List St) (A : Option Addr) (c : Nat) (w : World) (row : StRow AnyB w A l) (hl : l.length ≤ c) (hc : c ≤ maxLen) (htot : totGs l ≤ 1048576) (a : Int) :
    Calls Tryd.prog 18 #[.slice A l.length c, .int .i64 a] w fun e w' => e = .returned (.string ⟨(textR l a).toArray⟩) ∧ Below w.heap.size w w' := by
  have RW := Lib.hid row
  unfold maxLen at hc
  clear row
  cases hin : inB a 0 20 with
  | false =>
    have F := Lib.hid (textR_no1 (l := l) hin)
    have IN := Lib.hid hin
    clear hin
    go_enter Tryd.func18, Tryd.ntmps18
    go_wp2_with (go_at_call 64; (with_reducible refine (in_litT IN.out _).mono ?_); rintro e w' ⟨rfl, rfl⟩)
    go_ret
    exact ⟨by rw [F.out]; rfl, (by repeat' (first | exact Below.refl _ _ | exact Nat.le_refl _ | (refine Below.alloc ?_ ?_ _) | (refine Below.setCell ?_ ?_ _) | (refine Below.drew ?_) | (refine below_drewN ?_ _) | assumption | (simp; done) | (simp; omega)))⟩
  | true =>
  obtain ⟨ha0, ha1⟩ := inS_dest hin
  obtain ⟨ah, rfl⟩ : ∃ n : Nat, a = (n : Int) := ⟨a.toNat, by omega⟩
  have IN := Lib.hid hin
  have hsn : snodess l ≤ 1048576 := Nat.le_trans (snodess_tot l) htot
  clear hin
  go_enter Tryd.func18, Tryd.ntmps18
  go_wp2_with (go_at_call 64; (with_reducible refine (in_litT IN.out _).mono ?_); rintro e w' ⟨rfl, rfl⟩)
  go_loopw [5] (fun i wr => ∃ j : Nat, j ≤ l.length ∧ i = .int .i64 j ∧ Below w.heap.size w wr ∧ Hid (okGs (l.take j) = true)) (fun i _ => l.length - (intOf i).toNat)
  case atStart => exact ⟨0, Nat.zero_le _, rfl, Below.refl _ _, Lib.hid (by simp [okGs])⟩
  case round =>
    obtain ⟨j, hj, rfl, hb, HT⟩ := hrel
    have HB := Lib.hid hb
    clear hb
    by_cases hlt : j < l.length
    case neg =>
      have hok : okGs l = true := by have := HT.out; rwa [List.take_of_length_le (by omega)] at this
      have F := Lib.hid (textR_yes (n := ah) (by omega) hok)
      have HR := Lib.hid (okGs_right hok)
      have OB : Hid (OutB w (wr.alloc (.cells #[] 5)) (.slice (some ⟨wr.heap.size, 0, none⟩) 0 0) []) := Lib.hid (OutB.empty HB.out)
      clear hok
      go_wp2_with fail
      refine (spec_l04Say l 6 ah A c w _ _ [] RW.out hl (by unfold maxLen; omega) HR.out (by omega) OB.out (by simp only [List.length_nil]; omega)).mono ?_
      rintro e w2 ⟨v2, rfl, o2, _⟩
      have B2 := Lib.hid o2.own
      have e2 : OutB w w2 v2 (txtGs ah l) := o2
      obtain ⟨A2, c2, rfl, _⟩ := e2.slice
      have cv := str_run (w := w2) c2 (Own.rd e2)
      clear o2 e2
      generalize hX : txtGs ah l = X at *
      go_wp2_with fail
      go_ret
      exact ⟨by rw [F.out]; rfl, B2.out⟩
    obtain ⟨b, off, x, rfl, _, ⟨d0, d1, d2, d3, d4, d5, d6, d7⟩, hg⟩ := rd_stmt (RW.out.belowA HB.out) hlt
    have HG := Lib.hid hg
    have h0k : (0 : Int) ≤ (j : Int) := by omega
    have HNO := Lib.hid (okGs_no l j hlt)
    have HTK := Lib.hid (okGs_take l j hlt)
    have htj : totGs [l[j]] ≤ 1048577 := by have := totGs_lt (List.getElem_mem hlt); rw [totGs_one]; omega
    clear hg
    cases hf : fitGs 6 60 [l[j]] with
    | false =>
      have F := Lib.hid (textR_no2 (a := (ah : Int)) (HNO.out hf))
      go_wp2_with fail
      refine (spec_StmtOk l[j] x _ HG.out htj).mono ?_
      rintro e w1 ⟨rfl, b1⟩
      have B1 := Lib.hid (below_then HB.out b1)
      rw [hf]
      clear b1
      go_wp2_with fail
      go_ret
      exact ⟨by rw [F.out]; rfl, B1.out⟩
    | true =>
      have T : Hid (okGs (l.take (j + 1)) = true) := Lib.hid (by rw [HTK.out, HT.out, hf]; rfl)
      go_wp2_with fail
      refine (spec_StmtOk l[j] x _ HG.out htj).mono ?_
      rintro e w1 ⟨rfl, b1⟩
      have B1 := Lib.hid (below_then HB.out b1)
      rw [hf]
      clear b1
      go_wp2_with fail
      go_roundw
      case rel => exact ⟨j + 1, by omega, by go_num, B1.out, Lib.hid T.out⟩
      case measure => simp [intOf]; omega
set_option maxHeartbeats 1600000 in
theorem impl_StmtsText (l : List St) (A : Option Addr) (c : Nat) (w : World) (row : StRow AnyB w A l) (hl : l.length ≤ c) (hc : c ≤ maxLen) (htot : totGs l ≤ 1048576) (a : Int) (tab : TabW w) :
    Calls Tryd.prog 20 #[.slice A l.length c, .int .i64 a] w fun e w' => e = .returned (.string ⟨(textR l a).toArray⟩) ∧ Below w.heap.size w w' := by
  have RW := Lib.hid row
  have TB := Lib.hid tab
  unfold maxLen at hc
  clear row tab
  by_cases ha0 : a < 0
  · have F := Lib.hid (textR_no1 (l := l) (a := a) (inS_no (by omega)))
    go_enter Tryd.func20, Tryd.ntmps20
    go_wp2_with fail
    go_ret
    exact ⟨by rw [F.out]; rfl, (by repeat' (first | exact Below.refl _ _ | exact Nat.le_refl _ | (refine Below.alloc ?_ ?_ _) | (refine Below.setCell ?_ ?_ _) | (refine Below.drew ?_) | (refine below_drewN ?_ _) | assumption | (simp; done) | (simp; omega)))⟩
  by_cases ha1 : 20 < a
  · have F := Lib.hid (textR_no1 (l := l) (a := a) (inS_no (by omega)))
    go_enter Tryd.func20, Tryd.ntmps20
    go_wp2_with fail
    go_ret
    exact ⟨by rw [F.out]; rfl, (by repeat' (first | exact Below.refl _ _ | exact Nat.le_refl _ | (refine Below.alloc ?_ ?_ _) | (refine Below.setCell ?_ ?_ _) | (refine Below.drew ?_) | (refine below_drewN ?_ _) | assumption | (simp; done) | (simp; omega)))⟩
  obtain ⟨ah, rfl⟩ : ∃ n : Nat, a = (n : Int) := ⟨a.toNat, by omega⟩
  have hsn : snodess l ≤ 1048576 := Nat.le_trans (snodess_tot l) htot
  go_enter Tryd.func20, Tryd.ntmps20
  go_wp2_with fail
  go_loopw [16] (fun i wr => ∃ j : Nat, j ≤ l.length ∧ i = .int .i64 j ∧ Below w.heap.size w wr ∧ Hid (okGs (l.take j) = true)) (fun i _ => l.length - (intOf i).toNat)
  case atStart => exact ⟨0, Nat.zero_le _, rfl, Below.refl _ _, Lib.hid (by simp [okGs])⟩
  case round =>
    obtain ⟨j, hj, rfl, hb, HT⟩ := hrel
    have HB := Lib.hid hb
    clear hb
    by_cases hlt : j < l.length
    case neg =>
      have hok : okGs l = true := by have := HT.out; rwa [List.take_of_length_le (by omega)] at this
      have F := Lib.hid (textR_yes (n := ah) (by omega) hok)
      have HR := Lib.hid (okGs_right hok)
      have OB := Lib.hid (BldB.new wr)
      clear hok
      go_wp2_with fail
      refine (impl_writeStmts l 6 ah A c wr _ wr.heap.size [] (RW.out.belowA HB.out) hl (by unfold maxLen; omega) HR.out (by omega) OB.out (by simp only [List.length_nil]; omega) (TB.out.below HB.out)).mono ?_
      rintro e w2 ⟨rfl, o2, _⟩
      have O2 : Hid (BldB wr w2 wr.heap.size (txtGs ah l)) := Lib.hid o2
      have B2 := Lib.hid (below_then HB.out o2.own)
      have hsz := o2.own.size
      clear o2
      go_wp2_with fail
      refine (Tryd.Builder_String_any wr.heap.size wr.heap.size (txtGs ah l) _ O2.out.is hsz).mono ?_
      rintro e w3 ⟨rfl, b3⟩
      have B3 : Hid (Below w.heap.size w w3) := Lib.hid (B2.out.trans (b3.mono HB.out.size))
      clear b3
      generalize hX : txtGs ah l = X at *
      go_wp2_with fail
      go_ret
      exact ⟨by rw [F.out]; rfl, B3.out⟩
    obtain ⟨b, off, x, rfl, _, ⟨d0, d1, d2, d3, d4, d5, d6, d7⟩, hg⟩ := rd_stmt (RW.out.belowA HB.out) hlt
    have HG := Lib.hid hg
    have h0k : (0 : Int) ≤ (j : Int) := by omega
    have HNO := Lib.hid (okGs_no l j hlt)
    have HTK := Lib.hid (okGs_take l j hlt)
    have htj : totGs [l[j]] ≤ 1048577 := by have := totGs_lt (List.getElem_mem hlt); rw [totGs_one]; omega
    clear hg
    cases hf : fitGs 6 60 [l[j]] with
    | false =>
      have F := Lib.hid (textR_no2 (a := (ah : Int)) (HNO.out hf))
      go_wp2_with fail
      refine (impl_StmtOk l[j] x _ (HG.out.belowA (by repeat' (first | exact Below.refl _ _ | exact Nat.le_refl _ | (refine Below.alloc ?_ ?_ _) | (refine Below.setCell ?_ ?_ _) | (refine Below.drew ?_) | (refine below_drewN ?_ _) | assumption | (simp; done) | (simp; omega)))) htj).mono ?_
      rintro e w1 ⟨rfl, b1⟩
      have B1 := Lib.hid (below_then HB.out (Below.trans (Below.alloc (Below.refl _ _) (Nat.le_refl _) _) (b1.mono (by simp))))
      rw [hf]
      clear b1
      go_wp2_with fail
      go_ret
      exact ⟨by rw [F.out]; rfl, B1.out⟩
    | true =>
      have T : Hid (okGs (l.take (j + 1)) = true) := Lib.hid (by rw [HTK.out, HT.out, hf]; rfl)
      go_wp2_with fail
      refine (impl_StmtOk l[j] x _ (HG.out.belowA (by repeat' (first | exact Below.refl _ _ | exact Nat.le_refl _ | (refine Below.alloc ?_ ?_ _) | (refine Below.setCell ?_ ?_ _) | (refine Below.drew ?_) | (refine below_drewN ?_ _) | assumption | (simp; done) | (simp; omega)))) htj).mono ?_
      rintro e w1 ⟨rfl, b1⟩
      have B1 := Lib.hid (below_then HB.out (Below.trans (Below.alloc (Below.refl _ _) (Nat.le_refl _) _) (b1.mono (by simp))))
      rw [hf]
      clear b1
      go_wp2_with fail
      go_roundw
      case rel => exact ⟨j + 1, by omega, by go_num, B1.out, Lib.hid T.out⟩
      case measure => simp [intOf]; omega
set_option maxHeartbeats 1600000 in
theorem law_StmtsText (v : Value) (l : List St) (a : Int) (w : World) (o : IsStmts AnyB w v l) (_ha : (Lit.int .i64 a).wf = true) (tab : TabW w) :
    Calls Tryd.prog 4 #[v, .int .i64 a] w fun e w' => e = .returned (.bool true) ∧ Below w.heap.size w w' := by
  obtain ⟨A, c, rfl, hl, hc, row⟩ := o
  have RW := Lib.hid row
  have TB := Lib.hid tab
  clear row tab
  by_cases h1 : (1048576 : Int) - (totGs l : Int) < 0
  · have C1 := Lib.hid (cut0_neg h1)
    go_enter Tryd.func4, Tryd.ntmps4
    go_wp2_with fail
    refine (laws_szStmtS l (fun g _ => laws_szStmt g) A c _ 1048576 RW.out hl hc (by omega) (by omega)).mono ?_
    rintro e w1 ⟨rfl, b1⟩
    rw [C1.out]
    have B1 := Lib.hid b1
    clear b1
    go_wp2_with fail
    go_ret
    exact ⟨rfl, B1.out⟩
  have C1 := Lib.hid (cut0_pos (n := (1048576 : Int) - (totGs l : Int)) (by omega))
  have htot : totGs l ≤ 1048576 := by omega
  have h1' : 0 ≤ (1048576 : Int) - (totGs l : Int) := by omega
  go_enter Tryd.func4, Tryd.ntmps4
  go_wp2_with fail
  refine (laws_szStmtS l (fun g _ => laws_szStmt g) A c _ 1048576 RW.out hl hc (by omega) (by omega)).mono ?_
  rintro e w1 ⟨rfl, b1⟩
  rw [C1.out]
  have B1 := Lib.hid b1
  clear b1
  go_wp2_with fail
  refine (laws_toStmtS l (fun g _ => laws_toStmt g) A c _ (RW.out.belowA B1.out) hl hc htot).mono ?_
  rintro e w2 ⟨A2, c2, rfl, hl2, hc2, row2, b2⟩
  have B2 := Lib.hid (below_then B1.out b2)
  have R2 := Lib.hid row2.any
  clear b2 row2
  go_wp2_with fail
  refine (spec_StmtsText l A2 c2 _ R2.out hl2 hc2 htot a).mono ?_
  rintro e w3 ⟨rfl, b3⟩
  have B3 := Lib.hid (below_then B2.out b3)
  clear b3
  go_wp2_with fail
  refine (laws_toStmtS l (fun g _ => laws_toStmt g) A c _ (RW.out.belowA B3.out) hl hc htot).mono ?_
  rintro e w4 ⟨A4, c4, rfl, hl4, hc4, row4, b4⟩
  have B4 := Lib.hid (below_then B3.out b4)
  have R4 := Lib.hid row4.any
  clear b4 row4
  go_wp2_with fail
  refine (impl_StmtsText l A4 c4 _ R4.out hl4 hc4 htot a (TB.out.below B4.out)).mono ?_
  rintro e w5 ⟨rfl, b5⟩
  have B5 := Lib.hid (below_then B4.out b5)
  have R5 := Lib.hid (R4.out.belowA b5)
  have hbb : ((⟨(textR l a).toArray⟩ : ByteArray).toList != (⟨(textR l a).toArray⟩ : ByteArray).toList) = false := by simp
  generalize (⟨(textR l a).toArray⟩ : ByteArray) = LN at *
  clear b5
  go_wp2_with fail
  refine (laws_toStmtS l (fun g _ => laws_toStmt g) A c _ (RW.out.belowA B5.out) hl hc htot).mono ?_
  rintro e w6 ⟨A6, c6, rfl, hl6, hc6, row6, b6⟩
  have B6 := Lib.hid (below_then B5.out b6)
  have R6 := Lib.hid row6.any
  have S6 := Lib.hid (R5.out.belowA b6)
  have st : samesG l l = true := samesG_yes rfl
  clear b6 row6
  go_wp2_with fail
  refine (laws_eqStmtS l l (fun g _ => laws_eqStmt g) A4 A6 c4 c6 _ S6.out R6.out hl4 hl6 hc4 hc6).mono ?_
  rintro e w7 ⟨rfl, b7⟩
  have B7 := Lib.hid (below_then B6.out b7)
  clear b7
  rw [st]
  go_wp2_with fail
  go_ret
  exact ⟨rfl, B7.out⟩
end Go.Proofs.YtefcdpkficojgaaDoor
