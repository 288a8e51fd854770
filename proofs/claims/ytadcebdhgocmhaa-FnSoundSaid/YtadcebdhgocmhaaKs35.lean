/- Several texts in one: FxD. -/
import Derived.Test.YtadcebdhgocmhaaKs34
namespace Go.Proofs.Ytadcebdhgocmhaa
open Go.RowKit
set_option linter.unusedVariables false


def RetGB (base : Nat) (w : World) (p : Nat) (A : Option Addr) (c : Nat) (code : List UInt8) (r : List St × Cur) (e : Ending) (w' : World) : Prop :=
  ∃ A' c', e = .returned (.slice A' r.1.length c') ∧ r.1.length ≤ c' ∧ c' ≤ maxLen ∧ GrwO base w' (.slice A' r.1.length c') r.1 ∧ CurAt w' p A c code r.2 ∧ Keep (fun b => b < base ∧ b ≠ p) w w'
theorem guardS_same {code : List UInt8} {l : List St} {k : Cur} (k1 k2 : Cur) (x y : Int) (h1 : belowD code 3 k = (x, k1)) (h2 : belowD code 3 k1 = (y, k2)) (h : pickS loN x = pickS loN y) : guardS code l k = ([lockS (pickS loN x)] ++ l ++ [unlockS (pickS loN x)], k2) := by
  unfold guardS; simp only [h1, h2]; rw [if_pos h]
theorem guardS_two {code : List UInt8} {l : List St} {k : Cur} (k1 k2 k3 : Cur) (x y z : Int) (h1 : belowD code 3 k = (x, k1)) (h2 : belowD code 3 k1 = (y, k2)) (h : pickS loN x ≠ pickS loN y) (h3 : belowD code 2 k2 = (z, k3)) (hz : z = 0) : guardS code l k = ([lockS (pickS loN x)] ++ [lockS (pickS loN y)] ++ l ++ [unlockS (pickS loN x)], k3) := by
  unfold guardS; simp only [h1, h2, h3]; rw [if_neg h, if_pos hz]
theorem guardS_one {code : List UInt8} {l : List St} {k : Cur} (k1 k2 k3 : Cur) (x y z : Int) (h1 : belowD code 3 k = (x, k1)) (h2 : belowD code 3 k1 = (y, k2)) (h : pickS loN x ≠ pickS loN y) (h3 : belowD code 2 k2 = (z, k3)) (hz : z ≠ 0) : guardS code l k = ([lockS (pickS loN x)] ++ l ++ [unlockS (pickS loN x)], k3) := by
  unfold guardS; simp only [h1, h2, h3]; rw [if_neg h, if_neg hz]
set_option maxHeartbeats 3200000 in
set_option maxRecDepth 100000 in
theorem spec_l05Guarded (base p : Nat) (A : Option Addr) (c : Nat) (code : List UInt8) (k : Cur) (Al : Option Addr) (cl : Nat) (l : List St) (w : World) (rd : Rd w 1 A code.length (bv code)) (hl : code.length ≤ 1048576) (hc : c ≤ maxLen) (hk : CurAt w p A c code k) (hpb : p < base) (h : GrwO base w (.slice Al l.length cl) l) (hll : l.length ≤ 100) :
    Calls Try.prog 66 #[.pointer (some ⟨p, 0, none⟩), .slice Al l.length cl] w (RetGB base w p A c code (guardS code l k)) := by
  have RD := Lib.hid rd
  have HK := Lib.hid hk
  have GB := Lib.hid h
  have hbw : base ≤ w.heap.size := by obtain ⟨_, _, _, ow, _⟩ := h; exact ow.2
  have hpl := lt_of_block hk.at'
  have HRet : Hid (∀ L kc A' c' w', guardS code l k = (L, kc) → L.length ≤ c' → c' ≤ maxLen → GrwO base w' (.slice A' L.length c') L → CurAt w' p A c code kc → Keep (fun b => b < base ∧ b ≠ p) w w' → RetGB base w p A c code (guardS code l k) (.returned (.slice A' L.length c')) w') := Lib.hid fun L kc A' c' w' e h1 h2 h3 h4 h5 => by rw [e]; exact ⟨A', c', rfl, h1, h2, h3, h4, h5⟩
  have ES := Lib.hid (@guardS_same code l k)
  have ET := Lib.hid (@guardS_two code l k)
  have EO := Lib.hid (@guardS_one code l k)
  generalize hRR : RetGB base w p A c code (guardS code l k) = RR at *
  generalize hGS : guardS code l k = GS at *
  clear hRR hGS rd hk h
  go_enter Try.func66, Try.ntmps66
  go_wp2_with fail
  refine (pick_lo _ p (by omega) A c code k _ (Rd.new _ 1 3 _ _ rfl) (RD.out.alloc _) hl hc (HK.out.keep (by repeat' (first | exact Below.refl _ _ | exact Nat.le_refl _ | (refine Below.alloc ?_ ?_ _) | (refine Below.setCell ?_ ?_ _) | (refine Below.drew ?_) | (refine below_drewN ?_ _) | assumption | (simp; done) | (simp; omega))))).mono ?_
  rintro e w1 ⟨rfl, k1, kp1⟩
  have K1 := Lib.hid k1
  have P1 : Hid (Keep (fun b => b ≠ p) w w1) := Lib.hid (((Keep.refl (fun b => b ≠ p) w).alloc _).trans kp1 (fun _ _ h => h))
  have R1 := Lib.hid (rd_apart RD.out HK.out P1.out)
  have asz0 := pick_sz loN_sz rfl code k
  have hs1 : w.heap.size ≤ w1.heap.size := P1.out.size
  generalize hx : belowD code 3 k = xk at *
  obtain ⟨x, kx⟩ := xk
  have HX := Lib.hid hx
  clear k1 kp1 hx
  simp only at K1 asz0
  have ASZ := Lib.hid asz0
  clear asz0
  have HA := Lib.hid (rfl : pickS loN x = pickS loN x)
  generalize ha : pickS loN x = a at *
  have HAE := Lib.hid ha
  have asz : Hid (a.size ≤ maxLen) := Lib.hid (by first | exact ASZ.out | (rw [← ha]; exact ASZ.out))
  clear ha ASZ HA
  go_wp2_with fail
  refine (pick_lo _ p (by omega) A c code kx _ (Rd.new _ 1 3 _ _ rfl) (R1.out.alloc _) hl hc (K1.out.keep (by repeat' (first | exact Below.refl _ _ | exact Nat.le_refl _ | (refine Below.alloc ?_ ?_ _) | (refine Below.setCell ?_ ?_ _) | (refine Below.drew ?_) | (refine below_drewN ?_ _) | assumption | (simp; done) | (simp; omega))))).mono ?_
  rintro e w2 ⟨rfl, k2, kp2⟩
  have K2 := Lib.hid k2
  have P2 : Hid (Keep (fun b => b ≠ p) w w2) := Lib.hid ((P1.out.alloc _).trans kp2 (fun _ _ h => h))
  have R2 := Lib.hid (rd_apart RD.out HK.out P2.out)
  have bsz0 := pick_sz loN_sz rfl code kx
  have hs2 : w.heap.size ≤ w2.heap.size := P2.out.size
  generalize hy : belowD code 3 kx = yk at *
  obtain ⟨y, ky⟩ := yk
  have HYE := Lib.hid hy
  clear k2 kp2 hy
  simp only at K2 bsz0
  generalize hb : pickS loN y = b at *
  have HBE := Lib.hid hb
  have bsz : Hid (b.size ≤ maxLen) := Lib.hid bsz0
  clear hb bsz0 P1 R1 K1 hs1
  have G3 : Hid (GrwO w.heap.size (w2.alloc (.cells #[.int .i64 6, .string a, .int .i64 0, .int .i64 0, .string ⟨#[]⟩, .slice none 0 0, .slice none 0 0, .slice none 0 0] 36)) (.slice (some ⟨w2.heap.size, 0, none⟩) [lockS a].length 1) [lockS a]) := Lib.hid ((grwO_lit ⟨6, a, 0, 0, ⟨#[]⟩, none, 0, 0, none, 0, 0, none, 0, 0⟩ (lockS a) w2 (fun w' => flatO 6 a (by unfold i64in; omega) asz.out w')).mono hs2)
  obtain ⟨L1, hL1⟩ : ∃ L', L' = [lockS a] := ⟨_, rfl⟩
  have hlq : L1.length = 1 := by rw [hL1]; rfl
  have hlL1 : L1.length ≤ 1 := by omega
  have HL1 := Lib.hid hL1
  rw [← hL1, hlq] at G3
  clear hlq
  have P3 : Hid (Keep (fun b => b ≠ p) w (w2.alloc (.cells #[.int .i64 6, .string a, .int .i64 0, .int .i64 0, .string ⟨#[]⟩, .slice none 0 0, .slice none 0 0, .slice none 0 0] 36))) := Lib.hid (P2.out.alloc _)
  have K3 : Hid (CurAt (w2.alloc (.cells #[.int .i64 6, .string a, .int .i64 0, .int .i64 0, .string ⟨#[]⟩, .slice none 0 0, .slice none 0 0, .slice none 0 0] 36)) p A c code ky) := Lib.hid (K2.out.keep (by repeat' (first | exact Below.refl _ _ | exact Nat.le_refl _ | (refine Below.alloc ?_ ?_ _) | (refine Below.setCell ?_ ?_ _) | (refine Below.drew ?_) | (refine below_drewN ?_ _) | assumption | (simp; done) | (simp; omega))))
  have R3 := Lib.hid (rd_apart RD.out HK.out P3.out)
  have HZ : Hid (w.heap.size ≤ (w2.alloc (.cells #[.int .i64 6, .string a, .int .i64 0, .int .i64 0, .string ⟨#[]⟩, .slice none 0 0, .slice none 0 0, .slice none 0 0] 36)).heap.size) := Lib.hid P3.out.size
  have KBW : Hid (∀ i, base ≤ i ∧ i < w.heap.size → (w2.alloc (.cells #[.int .i64 6, .string a, .int .i64 0, .int .i64 0, .string ⟨#[]⟩, .slice none 0 0, .slice none 0 0, .slice none 0 0] 36)).heap[i]? = w.heap[i]?) := Lib.hid fun i hi => P3.out.block i hi.2 (by omega)
  clear hL1 R2
  by_cases hab : a = b
  · have hne := str_eq a b
    rw [decide_eq_true hab] at hne
    have HAB := Lib.hid hab
    clear hab
    obtain ⟨ys, GY, hyl, ry, hy⟩ := stRowO_to GB.out.rowB
    have RY := Lib.hid (ry.keep (w' := (w2.alloc (.cells #[.int .i64 6, .string a, .int .i64 0, .int .i64 0, .string ⟨#[]⟩, .slice none 0 0, .slice none 0 0, .slice none 0 0] 36))) (fun b hb => KBW.out b hb))
    have HY : Hid (∀ i (h : i < l.length) (h' : i < ys.length), StO (w2.alloc (.cells #[.int .i64 6, .string a, .int .i64 0, .int .i64 0, .string ⟨#[]⟩, .slice none 0 0, .slice none 0 0, .slice none 0 0] 36)) (GY i) ys[i] l[i]) := Lib.hid (fun i hi hi' => (hy i hi hi').keep fun b hb => KBW.out b (ry.2.2.1 i b hi hb))
    have HYL := Lib.hid hyl
    have YRD := Lib.hid RY.out.1
    clear ry hy hyl
    obtain ⟨xs7, G7, hxl7, ow7, hG7, hd7, hx7⟩ := G3.out
    have OW7 := Lib.hid ow7.own
    have OX7 := Lib.hid ow7
    have HX7 := Lib.hid (And.intro hxl7 (And.intro hG7 (And.intro hd7 hx7)))
    clear ow7 hxl7 hG7 hd7 hx7
    go_wp2_with (at_builtin; first | (refine wpList_appG rfl _ _ _ rfl sgT rfl OW7.out Al l.length cl (ys.flatMap V8.cells) rfl YRD.out (v8_one ys) (by simp only [maxLen]; omega) (by omega) ?_; intro v3 w3 own3 gr3; have GN3 : Hid (GrwO base w3 v3 (L1 ++ l)) := Lib.hid (grw_cat (S := fun _ => True) HX7.out.1 OX7.out HX7.out.2.1 HX7.out.2.2.1 HX7.out.2.2.2 hbw (Keep.refl _ _) (fun _ _ _ => trivial) HYL.out RY.out HY.out (fun b hb => ⟨hb.1, by have := hb.2; have := HZ.out; omega, fun h => by have := hb.2; have := h.1; omega⟩) own3 gr3); have BG3 : Hid (Keep (fun b => b < w.heap.size) (w2.alloc (.cells #[.int .i64 6, .string a, .int .i64 0, .int .i64 0, .string ⟨#[]⟩, .slice none 0 0, .slice none 0 0, .slice none 0 0] 36)) w3) := Lib.hid (gr3.keep.mono fun b _ hb e => by have := OX7.out.lt b e; omega); have LA3 : v3 = v3 ∧ ∃ A c, v3 = .slice A (L1 ++ l).length c ∧ (L1 ++ l).length ≤ c ∧ c ≤ maxLen := ⟨rfl, GN3.out.slice⟩; obtain ⟨-, A3, c3, rfl, hA3, hc3⟩ := LA3; obtain ⟨L3, hL3⟩ : ∃ L', L' = L1 ++ l := ⟨_, rfl⟩; have hlL3 : L3.length ≤ L1.length + l.length := (by rw [hL3, List.length_append]; omega); have HL3 := Lib.hid hL3; rw [← hL3] at GN3 hA3 ⊢; clear hL3 own3 gr3; obtain ⟨xs9, G9, hxl9, ow9, hG9, hd9, hx9⟩ := GN3.out; have OW9 := Lib.hid ow9.own; have OX9 := Lib.hid ow9; have HX9 := Lib.hid (And.intro hxl9 (And.intro hG9 (And.intro hd9 hx9))); clear ow9 hxl9 hG9 hd9 hx9) | (refine wpList_appG_new w3.heap.size rfl rfl _ _ _ rfl sgT OW9.out _ 1 rfl rfl rfl (by simp [Value.oneCell']) (by simp only [maxLen]; omega) (by omega) ?_; intro v9 w9 own9 gr9; have GN9 : Hid (GrwO base w9 v9 (L3 ++ [St.mk 7 a zeroTm [] []])) := Lib.hid (grw_app (S := fun _ => True) (x := ⟨7, a, 0, 0, ⟨#[]⟩, none, 0, 0, none, 0, 0, none, 0, 0⟩) HX9.out.1 OX9.out HX9.out.2.1 HX9.out.2.2.1 HX9.out.2.2.2 (Keep.refl _ _) (fun _ _ _ => trivial) ((flatO 7 a (by unfold i64in; omega) asz.out _).sub (fun _ h => h.elim)) own9 gr9); have BG9 : Hid (Keep (fun b => b < base) w3 w9) := Lib.hid (gr9.keep.mono fun b _ hb e => by have := OX9.out.lt b e; omega); have LA9 : v9 = v9 ∧ ∃ A c, v9 = .slice A (L3 ++ [St.mk 7 a zeroTm [] []]).length c ∧ (L3 ++ [St.mk 7 a zeroTm [] []]).length ≤ c ∧ c ≤ maxLen := ⟨rfl, GN9.out.slice⟩; obtain ⟨-, A9, c9, rfl, hA9, hc9⟩ := LA9; obtain ⟨L9, hL9⟩ : ∃ L', L' = L3 ++ [St.mk 7 a zeroTm [] []] := ⟨_, rfl⟩; have hlL9 : L9.length ≤ L3.length + 1 := (by rw [hL9]; simp); have HL9 := Lib.hid hL9; rw [← hL9] at GN9 hA9 ⊢; clear hL9 own9 gr9))
    have P9 : Hid (Keep (fun b => b < base ∧ b ≠ p) w w9) := Lib.hid (((P3.out.trans BG3.out (fun b hb _ => hb)).mono (fun b _ (h : b < base ∧ b ≠ p) => h.2)).trans BG9.out (fun b _ h => h.1))
    have C9 : Hid (CurAt w9 p A c code ky) := Lib.hid ⟨by rw [BG9.out.block p (by have := BG3.out.size; have := lt_of_block K3.out.at'; omega) hpb, BG3.out.block p (lt_of_block K3.out.at') hpl]; exact K3.out.at', K3.out.le⟩
    exact HRet.out L9 ky A9 c9 w9 (by rw [HL9.out, HL3.out, HL1.out, ← HAE.out]; exact ES.out _ _ _ _ (by first | exact rfl | exact HX.out) HYE.out (by rw [HAE.out, HBE.out]; exact HAB.out)) hA9 hc9 GN9.out C9.out P9.out
  have hne := str_eq a b
  rw [decide_no hab] at hne
  clear HZ KBW
  go_wp2_with fail
  refine (spec_l01Once 2 p A c code ky _ R3.out hl hc K3.out (by omega)).mono ?_
  rintro e w4 ⟨rfl, k4, kp4⟩
  have K4 := Lib.hid k4
  have P4 : Hid (Keep (fun b => b ≠ p) w w4) := Lib.hid (P3.out.trans kp4 (fun _ _ h => h))
  have G4 := Lib.hid (G3.out.keep kp4 (fun b hb _ => by omega))
  have hs4 : w.heap.size ≤ w4.heap.size := P4.out.size
  generalize hz : belowD code 2 ky = zk at *
  obtain ⟨z, kz⟩ := zk
  have HZE := Lib.hid hz
  clear k4 kp4 hz P3 K3 R3 G3
  simp only at K4
  by_cases hz : z = 0
  · have hzb : (z == 0) = true := by simp [hz]
    obtain ⟨xs5, G5, hxl5, ow5, hG5, hd5, hx5⟩ := G4.out
    have OW5 := Lib.hid ow5.own
    have OX5 := Lib.hid ow5
    have HX5 := Lib.hid (And.intro hxl5 (And.intro hG5 (And.intro hd5 hx5)))
    clear ow5 hxl5 hG5 hd5 hx5
    go_wp2_with (at_builtin; first | (refine wpList_appG_new w4.heap.size rfl rfl _ _ _ rfl sgT OW5.out _ 1 rfl rfl rfl (by simp [Value.oneCell']) (by simp only [maxLen]; omega) (by omega) ?_; intro v5 w5 own5 gr5; have GN5 : Hid (GrwO w.heap.size w5 v5 (L1 ++ [St.mk 6 b zeroTm [] []])) := Lib.hid (grw_app (S := fun _ => True) (x := ⟨6, b, 0, 0, ⟨#[]⟩, none, 0, 0, none, 0, 0, none, 0, 0⟩) HX5.out.1 OX5.out HX5.out.2.1 HX5.out.2.2.1 HX5.out.2.2.2 (Keep.refl _ _) (fun _ _ _ => trivial) ((flatO 6 b (by unfold i64in; omega) bsz.out _).sub (fun _ h => h.elim)) own5 gr5); have BG5 : Hid (Keep (fun b => b < w.heap.size) w4 w5) := Lib.hid (gr5.keep.mono fun b _ hb e => by have := OX5.out.lt b e; omega); have LA5 : v5 = v5 ∧ ∃ A c, v5 = .slice A (L1 ++ [St.mk 6 b zeroTm [] []]).length c ∧ (L1 ++ [St.mk 6 b zeroTm [] []]).length ≤ c ∧ c ≤ maxLen := ⟨rfl, GN5.out.slice⟩; obtain ⟨-, A5, c5, rfl, hA5, hc5⟩ := LA5; obtain ⟨L2, hL2⟩ : ∃ L', L' = L1 ++ [St.mk 6 b zeroTm [] []] := ⟨_, rfl⟩; have hlL2 : L2.length ≤ L1.length + 1 := (by rw [hL2]; simp); have HL2 := Lib.hid hL2; rw [← hL2] at GN5 hA5 ⊢; clear hL2 own5 gr5; have P5 : Hid (Keep (fun b => b ≠ p) w w5) := Lib.hid (P4.out.trans BG5.out (fun b hb _ => hb)); have K5 : Hid (CurAt w5 p A c code kz) := Lib.hid ⟨by rw [BG5.out.block p (lt_of_block K4.out.at') hpl]; exact K4.out.at', K4.out.le⟩; have HZ : Hid (w.heap.size ≤ w5.heap.size) := Lib.hid P5.out.size; have KBW : Hid (∀ i, base ≤ i ∧ i < w.heap.size → w5.heap[i]? = w.heap[i]?) := Lib.hid (fun i hi => P5.out.block i hi.2 (by omega)); obtain ⟨ys, GY, hyl, ry, hy⟩ := stRowO_to GB.out.rowB; have RY := Lib.hid (ry.keep (w' := w5) (fun b hb => KBW.out b hb)); have HY : Hid (∀ i (h : i < l.length) (h' : i < ys.length), StO w5 (GY i) ys[i] l[i]) := Lib.hid (fun i hi hi' => (hy i hi hi').keep fun b hb => KBW.out b (ry.2.2.1 i b hi hb)); have HYL := Lib.hid hyl; have YRD := Lib.hid RY.out.1; clear ry hy hyl; obtain ⟨xs7, G7, hxl7, ow7, hG7, hd7, hx7⟩ := GN5.out; have OW7 := Lib.hid ow7.own; have OX7 := Lib.hid ow7; have HX7 := Lib.hid (And.intro hxl7 (And.intro hG7 (And.intro hd7 hx7))); clear ow7 hxl7 hG7 hd7 hx7) | (refine wpList_appG rfl _ _ _ rfl sgT rfl OW7.out Al l.length cl (ys.flatMap V8.cells) rfl YRD.out (v8_one ys) (by simp only [maxLen]; omega) (by omega) ?_; intro v3 w3 own3 gr3; have GN3 : Hid (GrwO base w3 v3 (L2 ++ l)) := Lib.hid (grw_cat (S := fun _ => True) HX7.out.1 OX7.out HX7.out.2.1 HX7.out.2.2.1 HX7.out.2.2.2 hbw (Keep.refl _ _) (fun _ _ _ => trivial) HYL.out RY.out HY.out (fun b hb => ⟨hb.1, by have := hb.2; have := HZ.out; omega, fun h => by have := hb.2; have := h.1; omega⟩) own3 gr3); have BG3 : Hid (Keep (fun b => b < w.heap.size) w5 w3) := Lib.hid (gr3.keep.mono fun b _ hb e => by have := OX7.out.lt b e; omega); have LA3 : v3 = v3 ∧ ∃ A c, v3 = .slice A (L2 ++ l).length c ∧ (L2 ++ l).length ≤ c ∧ c ≤ maxLen := ⟨rfl, GN3.out.slice⟩; obtain ⟨-, A3, c3, rfl, hA3, hc3⟩ := LA3; obtain ⟨L3, hL3⟩ : ∃ L', L' = L2 ++ l := ⟨_, rfl⟩; have hlL3 : L3.length ≤ L2.length + l.length := (by rw [hL3, List.length_append]; omega); have HL3 := Lib.hid hL3; rw [← hL3] at GN3 hA3 ⊢; clear hL3 own3 gr3; obtain ⟨xs9, G9, hxl9, ow9, hG9, hd9, hx9⟩ := GN3.out; have OW9 := Lib.hid ow9.own; have OX9 := Lib.hid ow9; have HX9 := Lib.hid (And.intro hxl9 (And.intro hG9 (And.intro hd9 hx9))); clear ow9 hxl9 hG9 hd9 hx9) | (refine wpList_appG_new w3.heap.size rfl rfl _ _ _ rfl sgT OW9.out _ 1 rfl rfl rfl (by simp [Value.oneCell']) (by simp only [maxLen]; omega) (by omega) ?_; intro v9 w9 own9 gr9; have GN9 : Hid (GrwO base w9 v9 (L3 ++ [St.mk 7 a zeroTm [] []])) := Lib.hid (grw_app (S := fun _ => True) (x := ⟨7, a, 0, 0, ⟨#[]⟩, none, 0, 0, none, 0, 0, none, 0, 0⟩) HX9.out.1 OX9.out HX9.out.2.1 HX9.out.2.2.1 HX9.out.2.2.2 (Keep.refl _ _) (fun _ _ _ => trivial) ((flatO 7 a (by unfold i64in; omega) asz.out _).sub (fun _ h => h.elim)) own9 gr9); have BG9 : Hid (Keep (fun b => b < base) w3 w9) := Lib.hid (gr9.keep.mono fun b _ hb e => by have := OX9.out.lt b e; omega); have LA9 : v9 = v9 ∧ ∃ A c, v9 = .slice A (L3 ++ [St.mk 7 a zeroTm [] []]).length c ∧ (L3 ++ [St.mk 7 a zeroTm [] []]).length ≤ c ∧ c ≤ maxLen := ⟨rfl, GN9.out.slice⟩; obtain ⟨-, A9, c9, rfl, hA9, hc9⟩ := LA9; obtain ⟨L9, hL9⟩ : ∃ L', L' = L3 ++ [St.mk 7 a zeroTm [] []] := ⟨_, rfl⟩; have hlL9 : L9.length ≤ L3.length + 1 := (by rw [hL9]; simp); have HL9 := Lib.hid hL9; rw [← hL9] at GN9 hA9 ⊢; clear hL9 own9 gr9))
    have P9 : Hid (Keep (fun b => b < base ∧ b ≠ p) w w9) := Lib.hid (((P5.out.trans BG3.out (fun b hb _ => hb)).mono (fun b _ (h : b < base ∧ b ≠ p) => h.2)).trans BG9.out (fun b _ h => h.1))
    have C9 : Hid (CurAt w9 p A c code kz) := Lib.hid ⟨by rw [BG9.out.block p (by have := BG3.out.size; have := lt_of_block K5.out.at'; omega) hpb, BG3.out.block p (lt_of_block K5.out.at') hpl]; exact K5.out.at', K5.out.le⟩
    exact HRet.out L9 kz A9 c9 w9 (by rw [HL9.out, HL3.out, HL2.out, HL1.out, ← HAE.out, ← HBE.out]; exact ET.out _ _ _ _ _ _ (by first | exact rfl | exact HX.out) HYE.out (by rw [HAE.out, HBE.out]; exact hab) (by first | exact rfl | exact HZE.out) hz) hA9 hc9 GN9.out C9.out P9.out
  · have hzb : (z == 0) = false := by simp [hz]
    have HZ : Hid (w.heap.size ≤ w4.heap.size) := Lib.hid hs4
    have KBW : Hid (∀ i, base ≤ i ∧ i < w.heap.size → w4.heap[i]? = w.heap[i]?) := Lib.hid fun i hi => P4.out.block i hi.2 (by omega)
    obtain ⟨ys, GY, hyl, ry, hy⟩ := stRowO_to GB.out.rowB
    have RY := Lib.hid (ry.keep (w' := w4) (fun b hb => KBW.out b hb))
    have HY : Hid (∀ i (h : i < l.length) (h' : i < ys.length), StO w4 (GY i) ys[i] l[i]) := Lib.hid (fun i hi hi' => (hy i hi hi').keep fun b hb => KBW.out b (ry.2.2.1 i b hi hb))
    have HYL := Lib.hid hyl
    have YRD := Lib.hid RY.out.1
    clear ry hy hyl
    obtain ⟨xs7, G7, hxl7, ow7, hG7, hd7, hx7⟩ := G4.out
    have OW7 := Lib.hid ow7.own
    have OX7 := Lib.hid ow7
    have HX7 := Lib.hid (And.intro hxl7 (And.intro hG7 (And.intro hd7 hx7)))
    clear ow7 hxl7 hG7 hd7 hx7
    go_wp2_with (at_builtin; first | (refine wpList_appG rfl _ _ _ rfl sgT rfl OW7.out Al l.length cl (ys.flatMap V8.cells) rfl YRD.out (v8_one ys) (by simp only [maxLen]; omega) (by omega) ?_; intro v3 w3 own3 gr3; have GN3 : Hid (GrwO base w3 v3 (L1 ++ l)) := Lib.hid (grw_cat (S := fun _ => True) HX7.out.1 OX7.out HX7.out.2.1 HX7.out.2.2.1 HX7.out.2.2.2 hbw (Keep.refl _ _) (fun _ _ _ => trivial) HYL.out RY.out HY.out (fun b hb => ⟨hb.1, by have := hb.2; have := HZ.out; omega, fun h => by have := hb.2; have := h.1; omega⟩) own3 gr3); have BG3 : Hid (Keep (fun b => b < w.heap.size) w4 w3) := Lib.hid (gr3.keep.mono fun b _ hb e => by have := OX7.out.lt b e; omega); have LA3 : v3 = v3 ∧ ∃ A c, v3 = .slice A (L1 ++ l).length c ∧ (L1 ++ l).length ≤ c ∧ c ≤ maxLen := ⟨rfl, GN3.out.slice⟩; obtain ⟨-, A3, c3, rfl, hA3, hc3⟩ := LA3; obtain ⟨L3, hL3⟩ : ∃ L', L' = L1 ++ l := ⟨_, rfl⟩; have hlL3 : L3.length ≤ L1.length + l.length := (by rw [hL3, List.length_append]; omega); have HL3 := Lib.hid hL3; rw [← hL3] at GN3 hA3 ⊢; clear hL3 own3 gr3; obtain ⟨xs9, G9, hxl9, ow9, hG9, hd9, hx9⟩ := GN3.out; have OW9 := Lib.hid ow9.own; have OX9 := Lib.hid ow9; have HX9 := Lib.hid (And.intro hxl9 (And.intro hG9 (And.intro hd9 hx9))); clear ow9 hxl9 hG9 hd9 hx9) | (refine wpList_appG_new w3.heap.size rfl rfl _ _ _ rfl sgT OW9.out _ 1 rfl rfl rfl (by simp [Value.oneCell']) (by simp only [maxLen]; omega) (by omega) ?_; intro v9 w9 own9 gr9; have GN9 : Hid (GrwO base w9 v9 (L3 ++ [St.mk 7 a zeroTm [] []])) := Lib.hid (grw_app (S := fun _ => True) (x := ⟨7, a, 0, 0, ⟨#[]⟩, none, 0, 0, none, 0, 0, none, 0, 0⟩) HX9.out.1 OX9.out HX9.out.2.1 HX9.out.2.2.1 HX9.out.2.2.2 (Keep.refl _ _) (fun _ _ _ => trivial) ((flatO 7 a (by unfold i64in; omega) asz.out _).sub (fun _ h => h.elim)) own9 gr9); have BG9 : Hid (Keep (fun b => b < base) w3 w9) := Lib.hid (gr9.keep.mono fun b _ hb e => by have := OX9.out.lt b e; omega); have LA9 : v9 = v9 ∧ ∃ A c, v9 = .slice A (L3 ++ [St.mk 7 a zeroTm [] []]).length c ∧ (L3 ++ [St.mk 7 a zeroTm [] []]).length ≤ c ∧ c ≤ maxLen := ⟨rfl, GN9.out.slice⟩; obtain ⟨-, A9, c9, rfl, hA9, hc9⟩ := LA9; obtain ⟨L9, hL9⟩ : ∃ L', L' = L3 ++ [St.mk 7 a zeroTm [] []] := ⟨_, rfl⟩; have hlL9 : L9.length ≤ L3.length + 1 := (by rw [hL9]; simp); have HL9 := Lib.hid hL9; rw [← hL9] at GN9 hA9 ⊢; clear hL9 own9 gr9))
    have P9 : Hid (Keep (fun b => b < base ∧ b ≠ p) w w9) := Lib.hid (((P4.out.trans BG3.out (fun b hb _ => hb)).mono (fun b _ (h : b < base ∧ b ≠ p) => h.2)).trans BG9.out (fun b _ h => h.1))
    have C9 : Hid (CurAt w9 p A c code kz) := Lib.hid ⟨by rw [BG9.out.block p (by have := BG3.out.size; have := lt_of_block K4.out.at'; omega) hpb, BG3.out.block p (lt_of_block K4.out.at') hpl]; exact K4.out.at', K4.out.le⟩
    exact HRet.out L9 kz A9 c9 w9 (by rw [HL9.out, HL3.out, HL1.out, ← HAE.out]; exact EO.out _ _ _ _ _ _ (by first | exact rfl | exact HX.out) HYE.out (by rw [HAE.out, HBE.out]; exact hab) HZE.out hz) hA9 hc9 GN9.out C9.out P9.out
end Go.Proofs.Ytadcebdhgocmhaa
