/- Several texts in one: RsStL, RdPg, RdNodes, RdSN. -/
import Derived.Test.YtdanlgmpgdipnaaDoorKd37
import Derived.Test.YtdanlgmpgdipnaaDoorKd24
import Derived.Test.YtdanlgmpgdipnaaDoorKd29
import Derived.Test.YtdanlgmpgdipnaaDoorKd19
import Derived.Test.YtdanlgmpgdipnaaDoorKd34
namespace Go.Proofs.YtdanlgmpgdipnaaDoor
open Go.RowKit
set_option linter.unusedVariables false


/-- one statement, right or wrong -/
def firstG (L : List Sg) (n r i left : Nat) : Got (St × Nat) :=
  if (wordOf L i = 2 ∨ wordOf L i = 3) ∧ r = 0 then .bad 4 (posAt L n i) else if left = 0 then .bad 5 (posAt L n i) else oneG L n (rdS L n (r - 1)) (wordOf L i) i (left - 1)
theorem rdS_first {L : List Sg} {n r i left : Nat} (h : ¬ wordOf L i = 0) : rdS L n r i left = (firstG L n r i left).bind fun g q => (rdS L n r q g.2).bind fun x q2 => .ok (g.1 :: x.1, x.2) q2 := by
  rw [rdS_eq, stepG, if_neg h]
  unfold firstG
  split
  · rfl
  split
  · rfl
  · rfl
theorem firstG_lt {L : List Sg} {n r i left q : Nat} {b : St × Nat} (h : firstG L n r i left = .ok b q) : i < q := by
  unfold firstG at h
  split at h
  · cases h
  split at h
  · cases h
  · exact oneG_lt (fun j l b q _ h => rdS_le h) h
theorem blkG_left {L : List Sg} {n : Nat} {rec : Nat → Nat → Got (List St × Nat)} {i left q : Nat} {b : List St × Nat} (hr : ∀ j l b q, rec j l = .ok b q → b.2 ≤ l) (h : blkG L n rec i left = .ok b q) : b.2 ≤ left := by
  unfold blkG at h
  obtain ⟨_, i1, h1, h⟩ := bind_ok_inv h
  obtain ⟨b', i2, h2, h⟩ := bind_ok_inv h
  have := hr _ _ _ _ h2
  obtain ⟨_, i3, h3, h⟩ := bind_ok_inv h
  injection h with e h
  subst e
  exact this
theorem oneG_left {L : List Sg} {n : Nat} {rec : Nat → Nat → Got (List St × Nat)} {k : Int} {i left q : Nat} {b : St × Nat} (hr : ∀ j l b q, rec j l = .ok b q → b.2 ≤ l) (h : oneG L n rec k i left = .ok b q) : b.2 ≤ left := by
  unfold oneG at h
  split at h
  · unfold nesG at h
    obtain ⟨t, i1, h1, h⟩ := bind_ok_inv h
    obtain ⟨b1, i2, h2, h⟩ := bind_ok_inv h
    have := blkG_left hr h2
    split at h
    · injection h with e h
      subst e
      exact this
    · obtain ⟨e, i3, h3, h⟩ := bind_ok_inv h
      unfold elsG at h3
      split at h3
      · cases h3
      · have h4 := blkG_left hr h3
        injection h with e h
        subst e
        exact Nat.le_trans h4 this
  split at h
  · obtain ⟨_, i1, h1, h⟩ := bind_ok_inv h
    obtain ⟨t, i2, h2, h⟩ := bind_ok_inv h
    obtain ⟨_, i3, h3, h⟩ := bind_ok_inv h
    injection h with e h
    subst e
    exact Nat.le_refl _
  split at h
  · obtain ⟨_, i1, h1, h⟩ := bind_ok_inv h
    injection h with e h
    subst e
    exact Nat.le_refl _
  split at h
  · obtain ⟨_, i1, h1, h⟩ := bind_ok_inv h
    injection h with e h
    subst e
    exact Nat.le_refl _
  · cases h
theorem rdSs_left (L : List Sg) (n f : Nat) : ∀ room i left b q, rdSs L n f room i left = .ok b q → b.2 ≤ left := by
  induction f with
  | zero => intro room i left b q h; rw [rdSs] at h; injection h with e h; subst e; exact Nat.le_refl _
  | succ f ih =>
    intro room i left b q h
    rw [rdSs, stepG] at h
    split at h
    · injection h with e h; subst e; exact Nat.le_refl _
    split at h
    · cases h
    split at h
    · cases h
    obtain ⟨g, q1, h1, h⟩ := bind_ok_inv h
    have h3 := oneG_left (fun j l b q h => ih _ j l b q h) h1
    obtain ⟨r, q2, h2, h⟩ := bind_ok_inv h
    have h4 := ih _ _ _ _ _ h2
    injection h with e h
    subst e
    show r.2 ≤ left
    omega
theorem rdS_left {L : List Sg} {n room i left q : Nat} {b : List St × Nat} (h : rdS L n room i left = .ok b q) : b.2 ≤ left := rdSs_left _ _ _ _ _ _ _ _ h
theorem firstG_left {L : List Sg} {n r i left q : Nat} {b : St × Nat} (h : firstG L n r i left = .ok b q) : b.2 ≤ left := by
  unfold firstG at h
  split at h
  · cases h
  split at h
  · cases h
  · have := oneG_left (fun j l b q h => rdS_left h) h
    omega
def preL (acc : List St) (g : Got (List St × Nat)) : Got (List St × Nat) := g.bind fun b q => .ok (acc ++ b.1, b.2) q
theorem preL_nil (g : Got (List St × Nat)) : preL [] g = g := by
  unfold preL
  cases g with
  | bad c p => rfl
  | ok b q => rfl
theorem preL_stop {L : List Sg} {n r j lf : Nat} {acc : List St} (h : wordOf L j = 0) : preL acc (rdS L n r j lf) = .ok (acc, lf) j := by
  rw [rdS_eq, stepG, if_pos h]
  unfold preL
  rw [bind_ok, List.append_nil]
theorem preL_bad {L : List Sg} {n r j lf fp : Nat} {fc : Int} {acc : List St} (h : ¬ wordOf L j = 0) (h2 : firstG L n r j lf = .bad fc fp) : preL acc (rdS L n r j lf) = .bad fc fp := by
  rw [rdS_first h, h2]
  rfl
theorem preL_ok {L : List Sg} {n r j lf q lf' : Nat} {g : St} {acc : List St} (h : ¬ wordOf L j = 0) (h2 : firstG L n r j lf = .ok (g, lf') q) : preL acc (rdS L n r j lf) = preL (acc ++ [g]) (rdS L n r q lf') := by
  rw [rdS_first h, h2, bind_ok]
  unfold preL
  cases rdS L n r q lf' with
  | bad c p => rfl
  | ok b q => rw [bind_ok, bind_ok, bind_ok]; simp
/-- how far the reader is from its end, of its cells -/
def msOf (L : List Sg) (w : World) (rb : Nat) : Nat := match w.cell? ⟨rb, 3, none⟩, w.cell? ⟨rb, 1, none⟩ with
  | some (.int _ x), some (.int _ z) => if x = 0 then L.length + 2 - z.toNat else 0
  | _, _ => 0
theorem ms_ok {w : World} {rb : Nat} {A : Option Addr} {c n i : Nat} {L : List Sg} {fp : Nat} {lf : Int} (h : RsAt w rb A c n i L 0 fp lf) : msOf L w rb = L.length + 2 - i := by
  unfold msOf
  obtain ⟨_, h1, _, h3, _, _⟩ := h.cs
  rw [h3, h1]
  simp
theorem ms_bad {w : World} {rb : Nat} {A : Option Addr} {c n i : Nat} {L : List Sg} {fc : Int} {fp : Nat} {lf : Int} (h : RsAt w rb A c n i L fc fp lf) (hf : ¬ fc = 0) : msOf L w rb = 0 := by
  unfold msOf
  obtain ⟨_, h1, _, h3, _, _⟩ := h.cs
  rw [h3, h1]
  simp [hf]
abbrev StC (r : Nat) : Prop := ∀ (w : World) (rb : Nat) (A : Option Addr) (c n i : Nat) (L : List Sg) (left : Nat), SgsOk L → (∀ b o, A = some ⟨b, o, none⟩ → b < w.heap.size) → left ≤ 60 → ¬ wordOf L i = 0 → RsAt w rb A c n i L 0 0 (left : Int) →
  Calls Tryd.prog 28 #[.pointer (some ⟨rb, 0, none⟩), .int .i64 (r : Int)] w fun e w' => GsS1 w w' rb A c n L (firstG L n r i left) e
set_option maxHeartbeats 1600000 in
set_option maxRecDepth 100000 in
theorem rs_stmts_fault (room : Int) (w : World) (rb : Nat) (A : Option Addr) (c n i : Nat) (L : List Sg) (fc : Int) (fp : Nat) (lf : Int) (h : RsAt w rb A c n i L fc fp lf) (hf : ¬ fc = 0) :
    Calls Tryd.prog 16 #[.pointer (some ⟨rb, 0, none⟩), .int .i64 room] w fun e w' => ∃ A' c', e = .returned (.slice A' 0 c') ∧ Below w.heap.size w w' := by
  have RR := Lib.hid h
  have HF := Lib.hid hf
  clear h hf
  go_enter Tryd.func16, Tryd.ntmps16
  go_wp2_with fail
  go_loopw [5] (fun v wr => ∃ A' c', v = .slice A' 0 c' ∧ Hid (Below w.heap.size w wr)) (fun _ _ => 0)
  case atStart => exact ⟨_, _, rfl, Lib.hid (by repeat' (first | exact Below.refl _ _ | exact Nat.le_refl _ | (refine Below.alloc ?_ ?_ _) | (refine Below.setCell ?_ ?_ _) | (refine Below.drew ?_) | (refine below_drewN ?_ _) | assumption | (simp; done) | (simp; omega)))⟩
  case round =>
    obtain ⟨A', c', rfl, HB⟩ := hrel
    go_wp2_with fail
    refine (rs_begins_fault _ rb A c n i L fc fp lf (RR.out.below HB.out) HF.out).mono ?_
    rintro e w1 ⟨rfl, b1⟩
    have B1 := Lib.hid (below_then HB.out b1)
    clear b1
    go_wp2_with fail
    go_ret
    exact ⟨A', c', rfl, B1.out⟩
set_option maxHeartbeats 6400000 in
set_option maxRecDepth 100000 in
theorem rs_stmts_of (r : Nat) (ih : StC r) : SpSC r := by
  intro w rb A c n i L left hs hA hl h
  have IH := Lib.hid ih
  have HS := Lib.hid hs
  have HA := Lib.hid hA
  have RR := Lib.hid h
  have hrb := h.lt
  have hL6 := h.hL
  clear ih hs hA h
  go_enter Tryd.func16, Tryd.ntmps16
  go_wp2_with fail
  go_loopw [5] (fun v wr => ∃ (acc : List St), Hid ((∃ j lf : Nat, GrwO w.heap.size wr v acc ∧ RsAt wr rb A c n j L 0 0 (lf : Int) ∧ KeepR rb w wr ∧ acc.length ≤ j ∧ lf ≤ 60 ∧ rdS L n r i left = preL acc (rdS L n r j lf))
      ∨ (∃ (fc : Int) (fp q : Nat) (lf : Int) (A' : Option Addr) (m c' : Nat), v = .slice A' m c' ∧ ¬ fc = 0 ∧ RsAt wr rb A c n q L fc fp lf ∧ KeepR rb w wr ∧ rdS L n r i left = .bad fc fp))) (fun _ wr => msOf L wr rb)
  case atStart => exact ⟨[], Lib.hid (.inl ⟨i, left, GrwO.empty (Nat.le_refl _), RR.out.below (by repeat' (first | exact Below.refl _ _ | exact Nat.le_refl _ | (refine Below.alloc ?_ ?_ _) | (refine Below.setCell ?_ ?_ _) | (refine Below.drew ?_) | (refine below_drewN ?_ _) | assumption | (simp; done) | (simp; omega))), KeepR.of_below' (by repeat' (first | exact Below.refl _ _ | exact Nat.le_refl _ | (refine Below.alloc ?_ ?_ _) | (refine Below.setCell ?_ ?_ _) | (refine Below.drew ?_) | (refine below_drewN ?_ _) | assumption | (simp; done) | (simp; omega))), Nat.zero_le _, hl, (preL_nil _).symm⟩)⟩
  case round =>
    rename World => wr
    obtain ⟨acc, HR⟩ := hrel
    rcases HR.out with ⟨j, lf, hgr, hrs, hkp, haj, hlf, hch⟩ | ⟨fc, fp, q, lf, A', m, c', rfl, hfc, hrs, hkp, hch⟩
    case inr =>
      have R0 := Lib.hid hrs
      have K0 := Lib.hid hkp
      have HF := Lib.hid hfc
      have CH := Lib.hid hch
      clear hrs hkp hfc hch HR
      go_wp2_with fail
      refine (rs_begins_fault _ rb A c n q L fc fp lf R0.out HF.out).mono ?_
      rintro e w1 ⟨rfl, b1⟩
      have B1 := Lib.hid b1
      clear b1
      go_wp2_with fail
      go_ret
      rw [CH.out]
      exact ⟨K0.out.trans' (KeepR.of_below' B1.out), A', m, c', rfl, HF.out, q, lf, R0.out.below B1.out⟩
    obtain ⟨A', c', rfl, hc1, hc2⟩ := hgr.slice
    have GR := Lib.hid hgr
    have R0 := Lib.hid hrs
    have KP := Lib.hid hkp
    have CH := Lib.hid hch
    have HAJ := Lib.hid haj
    have hsz := hkp.size
    have hj6 := hrs.hi
    have MS := Lib.hid (ms_ok hrs)
    have hzw := hrs.lt
    clear hgr hrs hkp hch haj HR
    go_wp2_with fail
    refine (rs_begins _ rb A c n j L 0 (lf : Int) HS.out R0.out).mono ?_
    rintro e w1 ⟨rfl, b1⟩
    have R1 := Lib.hid (R0.out.below b1)
    have G1 := Lib.hid (GR.out.below b1)
    have K1 : Hid (KeepR rb w w1) := Lib.hid (KP.out.trans' (KeepR.of_below' b1))
    have hs1 := b1.size
    clear b1 GR KP R0
    by_cases h0 : wordOf L j = 0
    · rw [decide_eq_false (fun h => h h0)]
      have RE : Hid (rdS L n r i left = .ok (acc, lf) j) := Lib.hid (by rw [CH.out, preL_stop h0])
      clear h0
      go_wp2_with fail
      go_ret
      rw [RE.out]
      exact ⟨K1.out, A', acc.length, c', rfl, rfl, hc1, hc2, G1.out.row, R1.out⟩
    · rw [decide_eq_true h0]
      have H0 := Lib.hid h0
      have hjl := wordOf_lt h0
      clear h0
      go_wp2_with fail
      refine (IH.out w1 rb A c n j L lf HS.out (fun b o e => Nat.lt_of_lt_of_le (HA.out b o e) K1.out.size) hlf H0.out R1.out).mono ?_
      rintro e w2 ⟨k2, x, rfl, hret⟩
      have Q2 := Lib.hid k2
      have K2 : Hid (KeepR rb w w2) := Lib.hid (K1.out.trans' k2)
      have hs2 := k2.size
      clear k2
      obtain ⟨xs, G, hxl, ow, hG, hd, hx⟩ := G1.out
      have OW := Lib.hid (ow.keep Q2.out (fun b hb => by have := (ow.lt b hb).1; omega)).own
      have OX := Lib.hid ow
      have HX := Lib.hid (And.intro hxl (And.intro hG (And.intro hd hx)))
      clear ow hxl hG hd hx
      obtain ⟨g, hg⟩ : ∃ g, firstG L n r j lf = g := ⟨_, rfl⟩
      rw [hg] at hret
      cases g with
      | bad fc fp =>
        obtain ⟨hfc, q, lf', r2⟩ := hret
        have HF := Lib.hid hfc
        have R2 := Lib.hid r2
        have RE : Hid (rdS L n r i left = .bad fc fp) := Lib.hid (by rw [CH.out, preL_bad H0.out hg])
        have hal : acc.length ≤ 6000 := Nat.le_trans HAJ.out hj6
        clear hfc r2 hg
        go_wp2_with (at_builtin; refine wpList_appG_new w2.heap.size rfl rfl _ _ _ rfl sgT OW.out _ 1 rfl rfl rfl (by simp [Value.oneCell']) (by simp only [maxLen]; omega) (by omega) ?_; intro v3 w3 own3 gr3)
        have OKB : Hid (∀ b, b < w.heap.size → (.slice A' acc.length c' : Value).ownBlock ≠ some b) := Lib.hid fun b hb e => by have := OX.out.lt b e; omega
        have BG : Hid (Keep (fun b => b < w.heap.size) w2 w3) := Lib.hid (gr3.keep.mono fun b _ hb => OKB.out b hb)
        have R3 : Hid (RsAt w3 rb A c n q L fc fp lf') := Lib.hid (R2.out.keepS BG.out hrb (fun b o e => ⟨HA.out b o e, Nat.lt_of_lt_of_le (HA.out b o e) K2.out.size⟩))
        have K3 : Hid (KeepR rb w w3) := Lib.hid (K2.out.trans BG.out (fun b hb _ => hb))
        obtain ⟨A3, c3, rfl, _⟩ := own3.slice
        have MT := Lib.hid (ms_bad R3.out HF.out)
        clear own3 gr3
        go_wp2_with fail
        go_roundw
        case rel => exact ⟨acc, Lib.hid (.inr ⟨fc, fp, q, lf', A3, acc.length + 1, c3, rfl, HF.out, R3.out, K3.out, RE.out⟩)⟩
        case measure =>
          have h1 := MS.out
          have h2 := MT.out
          rw [h1, h2]
          omega
      | ok b q =>
        obtain ⟨g, lf'⟩ := b
        obtain ⟨t2, r2⟩ := hret
        have T2 := Lib.hid t2
        have R2 := Lib.hid r2
        have RE : Hid (rdS L n r i left = preL (acc ++ [g]) (rdS L n r q lf')) := Lib.hid (by rw [CH.out, preL_ok H0.out hg])
        have HQ := Lib.hid (And.intro (firstG_lt hg) (firstG_left hg))
        have hal : acc.length ≤ 6000 := Nat.le_trans HAJ.out hj6
        clear t2 r2 hg
        go_wp2_with (at_builtin; refine wpList_appG_new w2.heap.size rfl rfl _ _ _ rfl sgT OW.out _ 1 rfl rfl rfl (by simp [Value.oneCell']) (by simp only [maxLen]; omega) (by omega) ?_; intro v3 w3 own3 gr3)
        have GN : Hid (GrwO w.heap.size w3 v3 (acc ++ [g])) := Lib.hid (grw_app (S := fun b => b ≠ rb) HX.out.1 OX.out HX.out.2.1 HX.out.2.2.1 HX.out.2.2.2 Q2.out (fun b hb _ => by show b ≠ rb; omega) T2.out own3 gr3)
        have OKB : Hid (∀ b, b < w.heap.size → (.slice A' acc.length c' : Value).ownBlock ≠ some b) := Lib.hid fun b hb e => by have := OX.out.lt b e; omega
        have BG : Hid (Keep (fun b => b < w.heap.size) w2 w3) := Lib.hid (gr3.keep.mono fun b _ hb => OKB.out b hb)
        have R3 : Hid (RsAt w3 rb A c n q L 0 0 (lf' : Int)) := Lib.hid (R2.out.keepS BG.out hrb (fun b o e => ⟨HA.out b o e, Nat.lt_of_lt_of_le (HA.out b o e) K2.out.size⟩))
        have K3 : Hid (KeepR rb w w3) := Lib.hid (K2.out.trans BG.out (fun b hb _ => hb))
        have MT := Lib.hid (ms_ok R3.out)
        clear own3 gr3
        go_wp2_with fail
        go_roundw
        case rel => exact ⟨acc ++ [g], Lib.hid (.inl ⟨q, lf', GN.out, R3.out, K3.out, by have := HAJ.out; have := HQ.out.1; simp; omega, Nat.le_trans HQ.out.2 hlf, RE.out⟩)⟩
        case measure =>
          have h1 := MS.out
          have h2 := MT.out
          have h3 := HQ.out.1
          rw [h1, h2]
          omega

def tGlobals : ByteArray := ⟨#[103, 108, 111, 98, 97, 108, 115]⟩
def tLocks : ByteArray := ⟨#[108, 111, 99, 107, 115]⟩
def tProc : ByteArray := ⟨#[112, 114, 111, 99]⟩
/-- names with commas between them, up to ";"; r is how many more there may be -/
def nmR (L : List Sg) (n : Nat) : Nat → List ByteArray → Nat → Got (List ByteArray)
  | 0, acc, i => if nmB L i = true then .bad 5 (posAt L n i) else .bad 3 (posAt L n i)
  | r + 1, acc, i =>
    if nmB L i = true then
      if tx L (i + 1) = ⟨#[44]⟩ then nmR L n r (acc ++ [tx L i]) (i + 2)
      else (tk L n ⟨#[59]⟩ (i + 1)).bind fun _ q => .ok (acc ++ [tx L i]) q
    else .bad 3 (posAt L n i)
def nmsG (L : List Sg) (n : Nat) (word : ByteArray) (most i : Nat) : Got (List ByteArray) :=
  (tk L n word i).bind fun _ i1 => if tx L i1 = ⟨#[59]⟩ then .ok [] (i1 + 1) else nmR L n most [] i1
def procG (L : List Sg) (n i : Nat) : Got Pr :=
  (tk L n tProc i).bind fun _ i1 =>
    if nmB L i1 = true then (blkG L n (rdS L n 6) (i1 + 1) 60).bind fun b q => .ok ⟨tx L i1, b.1⟩ q
    else .bad 3 (posAt L n i1)
def prR (L : List Sg) (n : Nat) : Nat → List Pr → Nat → Got (List Pr)
  | 0, acc, i => if i < L.length then (if tx L i = tProc then .bad 5 (posAt L n i) else .bad 3 (posAt L n i)) else .ok acc i
  | r + 1, acc, i => if i < L.length then (procG L n i).bind fun p q => prR L n r (acc ++ [p]) q else .ok acc i
def rdG (L : List Sg) (n : Nat) : Got Pg :=
  (nmsG L n tGlobals 6 0).bind fun g i1 => (nmsG L n tLocks 6 i1).bind fun l i2 => (prR L n 8 [] i2).bind fun ps q => .ok ⟨g, l, ps⟩ q

theorem rdT_nodes (L : List Sg) (n r : Nat) : ∀ i t q, rdT L n r i = .ok t q → i + nodes t ≤ q := by
  have leaf : ∀ i t q g, (∀ t q, g = .ok t q → i + nodes t ≤ q) → leafT L n i g = .ok t q → i + nodes t ≤ q := by
    intro i t q g hg h
    unfold leafT at h
    split at h
    · injection h with h1 h2
      subst h1 h2
      simp [nodes, nodess]
    · split at h
      · injection h with h1 h2
        subst h1 h2
        simp [nodes, nodess]
      · split at h
        · exact hg _ _ h
        · cases h
  induction r with
  | zero => intro i t q h; rw [rdT] at h; exact leaf i t q _ (fun _ _ h => by cases h) h
  | succ r ih =>
    intro i t q h
    rw [rdT] at h
    refine leaf i t q _ ?_ h
    intro t q h
    unfold innT at h
    split at h
    · split at h
      · cases h
      · next x q1 h1 =>
        have h3 := ih _ _ _ h1
        obtain ⟨e1, e2, _⟩ := closeT_ok h
        subst e1 e2
        simp only [nodes, nodess]
        omega
    · split at h
      · cases h
      · next a q1 h1 =>
        have h3 := ih _ _ _ h1
        split at h
        · cases h
        · split at h
          · cases h
          · next b q2 h2 =>
            have h4 := ih _ _ _ h2
            obtain ⟨e1, e2, _⟩ := closeT_ok h
            subst e1 e2
            simp only [nodes, nodess]
            omega

theorem blkG_marks {L : List Sg} {n : Nat} {rec : Nat → Nat → Got (List St × Nat)} {i left q : Nat} {b : List St × Nat} (hr : ∀ j l b q, rec j l = .ok b q → smarkss b.1 + 5 * j ≤ 5 * q) (h : blkG L n rec i left = .ok b q) : smarkss b.1 + 5 * (i + 2) ≤ 5 * q := by
  unfold blkG at h
  obtain ⟨_, i1, h1, h⟩ := bind_ok_inv h
  obtain ⟨_, rfl⟩ := tk_inv h1
  obtain ⟨b', i2, h2, h⟩ := bind_ok_inv h
  have := hr _ _ _ _ h2
  obtain ⟨_, i3, h3, h⟩ := bind_ok_inv h
  obtain ⟨_, rfl⟩ := tk_inv h3
  injection h with e h
  subst e
  omega
theorem kids_le (t : Tm) : nodess t.kids + 1 = nodes t := by
  obtain ⟨_, _, _, kids⟩ := t
  rw [nodes]; show nodess kids + 1 = 1 + nodess kids; omega
theorem oneG_marks {L : List Sg} {n : Nat} {rec : Nat → Nat → Got (List St × Nat)} {k : Int} {i left q : Nat} {b : St × Nat} (hr : ∀ j l b q, rec j l = .ok b q → smarkss b.1 + 5 * j ≤ 5 * q) (h : oneG L n rec k i left = .ok b q) : smarks b.1 + 5 * i ≤ 5 * q := by
  unfold oneG at h
  split at h
  · unfold nesG at h
    obtain ⟨t, i1, h1, h⟩ := bind_ok_inv h
    have hn := rdT_nodes _ _ _ _ _ _ h1
    have hk := kids_le t
    obtain ⟨b1, i2, h2, h⟩ := bind_ok_inv h
    have := blkG_marks hr h2
    split at h
    · injection h with e h
      subst e
      rw [smarks, smarkss]; omega
    · obtain ⟨e, i3, h3, h⟩ := bind_ok_inv h
      unfold elsG at h3
      split at h3
      · cases h3
      · have := blkG_marks hr h3
        injection h with e h
        subst e
        rw [smarks]; omega
  split at h
  · obtain ⟨_, i1, h1, h⟩ := bind_ok_inv h
    obtain ⟨_, rfl⟩ := tk_inv h1
    obtain ⟨t, i2, h2, h⟩ := bind_ok_inv h
    have hn := rdT_nodes _ _ _ _ _ _ h2
    have hk := kids_le t
    obtain ⟨_, i3, h3, h⟩ := bind_ok_inv h
    obtain ⟨_, rfl⟩ := tk_inv h3
    injection h with e h
    subst e
    rw [smarks, smarkss]
    omega
  split at h
  · obtain ⟨_, i1, h1, h⟩ := bind_ok_inv h
    obtain ⟨_, rfl⟩ := tk_inv h1
    injection h with e h
    subst e
    rw [smarks, smarkss]
    show 5 + 3 * nodess [] + 0 + 0 + 5 * i ≤ 5 * q
    rw [nodess]; omega
  split at h
  · obtain ⟨_, i1, h1, h⟩ := bind_ok_inv h
    obtain ⟨_, rfl⟩ := tk_inv h1
    injection h with e h
    subst e
    rw [smarks, smarkss]
    show 5 + 3 * nodess [] + 0 + 0 + 5 * i ≤ 5 * q
    rw [nodess]; omega
  · cases h
theorem rdSs_marks (L : List Sg) (n f : Nat) : ∀ room i left b q, rdSs L n f room i left = .ok b q → smarkss b.1 + 5 * i ≤ 5 * q := by
  induction f with
  | zero => intro room i left b q h; rw [rdSs] at h; injection h with e h; subst e; rw [smarkss]; omega
  | succ f ih =>
    intro room i left b q h
    rw [rdSs, stepG] at h
    split at h
    · injection h with e h; subst e; rw [smarkss]; omega
    split at h
    · cases h
    split at h
    · cases h
    obtain ⟨g, q1, h1, h⟩ := bind_ok_inv h
    have := oneG_marks (fun j l b q h => ih _ j l b q h) h1
    obtain ⟨r, q2, h2, h⟩ := bind_ok_inv h
    have := ih _ _ _ _ _ h2
    injection h with e h
    subst e
    rw [smarkss]
    omega
/-- a reader never goes far beyond the last sign -/
theorem blkG_top {L : List Sg} {n : Nat} {rec : Nat → Nat → Got (List St × Nat)} {i left q : Nat} {b : List St × Nat} (h : blkG L n rec i left = .ok b q) : q ≤ L.length := by
  unfold blkG at h
  obtain ⟨_, i1, h1, h⟩ := bind_ok_inv h
  obtain ⟨b', i2, h2, h⟩ := bind_ok_inv h
  obtain ⟨_, i3, h3, h⟩ := bind_ok_inv h
  obtain ⟨h4, rfl⟩ := tk_inv h3
  injection h with e h
  subst h
  rcases Nat.lt_or_ge i2 L.length with h5 | h5
  · omega
  · rw [tx_ge (by omega)] at h4; exact absurd h4 (by decide)
theorem tk_top {L : List Sg} {n i j : Nat} {s : ByteArray} {u : Unit} (hs : s ≠ ⟨#[]⟩) (h : tk L n s i = .ok u j) : j ≤ L.length := by
  obtain ⟨h4, rfl⟩ := tk_inv h
  rcases Nat.lt_or_ge i L.length with h5 | h5
  · omega
  · rw [tx_ge (by omega)] at h4; exact absurd h4.symm hs
end Go.Proofs.YtdanlgmpgdipnaaDoor
